/- The abstract machine, part 22: operations, conversions, slices, indexes, calls. -/
import Derived.Test.YthbanbnmomcohaaGreatDoorM5
set_option linter.all false
set_option linter.unusedSimpArgs false
namespace Go.Ab
open Go Go.RowKit
section
variable {P : Program} {S : Stat} {w0 w : World} {ν : List Place} {σ σ' : St} {env : Env} {act : Act} {v : AVal} {cf : CF} {q : Bool} {o : Oper}

theorem sim_toIntO (hB : Base P S w0) (henv : EnvR w0 ν S.tab env act.tmps) (hrel : Rel w0 ν σ w) {k : IntKind} {x : Opd} (hok : okOp S o.op (.toInt k x) = true) (h : stepOp S.tab cf q (.toInt k x) env σ = some (v, σ')) : OpG P w0 ν σ' v (execOp act.eval o) w := by
  simp only [okOp] at hok
  split at hok
  · rename_i s d y hop
    simp only [Bool.and_eq_true] at hok
    obtain ⟨⟨h1, h2⟩, h3⟩ := hok
    obtain ⟨ts, hs, _⟩ := withTI_elim hB.tt h2
    obtain ⟨td, hd, hk⟩ := withTI_elim hB.tt h3
    simp only [decide_eq_true_eq] at hk
    have hx := opd_sim hB henv h1
    simp only [stepOp, opToInt] at h
    split at h
    · rename_i k' n hxv
      simp only [Option.some.injEq, Prod.mk.injEq] at h; obtain ⟨rfl, rfl⟩ := h
      rw [hxv] at hx
      have := (sim_toInt (P := P) hrel hs hd hk hx).value
      simpa only [execOp, hop] using this
    · simp at h
  · simp at hok

theorem sim_intStrO (hB : Base P S w0) (henv : EnvR w0 ν S.tab env act.tmps) (hrel : Rel w0 ν σ w) {x : Opd} (hok : okOp S o.op (.intStr x) = true) (h : stepOp S.tab cf q (.intStr x) env σ = some (v, σ')) : OpG P w0 ν σ' v (execOp act.eval o) w := by
  simp only [okOp] at hok
  split at hok
  · rename_i s d y hop
    simp only [Bool.and_eq_true] at hok
    obtain ⟨⟨h1, h2⟩, h3⟩ := hok
    obtain ⟨ts, hs, _⟩ := withTI_elim hB.tt h2
    obtain ⟨td, hd, hk⟩ := withTI_elim hB.tt h3
    simp only [decide_eq_true_eq] at hk
    have hx := opd_sim hB henv h1
    simp only [stepOp, opIntStr] at h
    split at h
    · rename_i k' n hxv
      simp only [Option.some.injEq, Prod.mk.injEq] at h; obtain ⟨rfl, rfl⟩ := h
      rw [hxv] at hx
      have := (sim_intStr (P := P) hrel hs hd hk hx).value
      simpa only [execOp, hop] using this
    · simp at h
  · simp at hok

theorem sim_bytesO (hB : Base P S w0) (henv : EnvR w0 ν S.tab env act.tmps) (hrel : Rel w0 ν σ w) {e : TypeId} {x : Opd} (hok : okOp S o.op (.bytes e x) = true) (h : stepOp S.tab cf q (.bytes e x) env σ = some (v, σ')) : OpG P w0 ν σ' v (execOp act.eval o) w := by
  cases q with
  | true => simp [stepOp, opBytes] at h
  | false =>
    simp only [okOp] at hok
    split at hok
    · rename_i s d y hop
      simp only [Bool.and_eq_true] at hok
      obtain ⟨⟨⟨h1, h2⟩, h3⟩, h4⟩ := hok
      obtain ⟨ts, hs, _⟩ := withTI_elim hB.tt h2
      obtain ⟨td, hd, hk⟩ := withTI_elim hB.tt h3
      obtain ⟨te, he, hte⟩ := withTI_elim hB.tt h4
      simp only [decide_eq_true_eq] at hk hte
      have hx := opd_sim hB henv h1
      simp only [stepOp, opBytes, Bool.false_eq_true, if_false] at h
      split at h
      · rename_i l hxv
        simp only [St.newK_eq, Option.some.injEq, Prod.mk.injEq] at h; obtain ⟨rfl, rfl⟩ := h
        rw [hxv] at hx
        have := (sim_bytes (P := P) hrel hs hd hk he hte hx).value
        simpa only [execOp, hop] using this
      · simp at h
    · simp at hok

theorem sim_strOfO (hB : Base P S w0) (henv : EnvR w0 ν S.tab env act.tmps) (hrel : Rel w0 ν σ w) {x : Opd} (hok : okOp S o.op (.strOf x) = true) (h : stepOp S.tab cf q (.strOf x) env σ = some (v, σ')) : OpG P w0 ν σ' v (execOp act.eval o) w := by
  simp only [okOp] at hok
  split at hok
  · rename_i s d y hop
    simp only [Bool.and_eq_true] at hok
    obtain ⟨⟨h1, h2⟩, h3⟩ := hok
    obtain ⟨td, hd, hk⟩ := withTI_elim hB.tt h2
    obtain ⟨ts, hs, hf⟩ := withTI_elim hB.tt h3
    simp only [decide_eq_true_eq] at hk
    split at hf
    · rename_i e hts
      obtain ⟨te, he, hte⟩ := withTI_elim hB.tt hf
      simp only [decide_eq_true_eq] at hte
      have hx := opd_sim hB henv h1
      simp only [stepOp, opStrOf] at h
      split at h
      · simp at h
      · rename_i xv hno
        split at h
        · rename_i n cs hc
          split at h
          · rename_i l hl
            simp only [Option.some.injEq, Prod.mk.injEq] at h; obtain ⟨rfl, rfl⟩ := h
            have := (sim_strOf (P := P) hrel hs hts hd hk he hte (fun t e' => hno t e') hc hl hx).value
            simpa only [execOp, hop] using this
          · simp at h
        · simp at h
    · simp at hf
  · simp at hok

theorem sim_stampO (hB : Base P S w0) (henv : EnvR w0 ν S.tab env act.tmps) (hrel : Rel w0 ν σ w) {x : Opd} (hok : okOp S o.op (.stamp x) = true) (h : stepOp S.tab cf q (.stamp x) env σ = some (v, σ')) : OpG P w0 ν σ' v (execOp act.eval o) w := by
  cases q with
  | true => simp [stepOp, opStamp] at h
  | false =>
    simp only [okOp] at hok
    split at hok
    · rename_i s d y hop
      simp only [Bool.and_eq_true, beq_iff_eq] at hok
      obtain ⟨⟨h1, rfl⟩, h3⟩ := hok
      obtain ⟨ts, hs, hf⟩ := withTI_elim hB.tt h3
      split at hf
      · rename_i e hts
        obtain ⟨te, he, hte⟩ := withTI_elim hB.tt hf
        simp only [decide_eq_true_eq] at hte
        have hx := opd_sim hB henv h1
        simp only [stepOp, opStamp, Bool.false_eq_true, if_false] at h
        split at h
        · rename_i b i n sz hxv
          split at h
          · rename_i eb cs hb
            simp only [Option.some.injEq, Prod.mk.injEq] at h; obtain ⟨rfl, rfl⟩ := h
            rw [hxv] at hx
            have := (sim_stamp (P := P) hrel hs hts he hte hb hx).value
            simpa only [execOp, hop] using this
          · simp at h
        · simp at h
      · simp at hf
    · simp at hok

theorem sim_toUnsafeO (hB : Base P S w0) (henv : EnvR w0 ν S.tab env act.tmps) (hrel : Rel w0 ν σ w) {x : Opd} (hok : okOp S o.op (.toUnsafe x) = true) (h : stepOp S.tab cf q (.toUnsafe x) env σ = some (v, σ')) : OpG P w0 ν σ' v (execOp act.eval o) w := by
  simp only [okOp] at hok
  split at hok
  · rename_i s d y hop
    simp only [Bool.and_eq_true] at hok
    obtain ⟨⟨h1, h2⟩, h3⟩ := hok
    obtain ⟨td, hd, hk⟩ := withTI_elim hB.tt h2
    obtain ⟨ts, hs, hf⟩ := withTI_elim hB.tt h3
    simp only [decide_eq_true_eq] at hk
    split at hf
    · rename_i e hts
      obtain ⟨te, he, hte⟩ := withTI_elim hB.tt hf
      have hte' : te.size ≠ 0 := by simpa using hte
      have hx := opd_sim hB henv h1
      have := (sim_toUnsafe (P := P) hrel hs hts hd hk he hte' hx S.tab env rfl (by simpa only [stepOp] using h)).value
      simpa only [execOp, hop] using this
    · simp at hf
  · simp at hok

theorem sim_castO (hB : Base P S w0) (henv : EnvR w0 ν S.tab env act.tmps) (hrel : Rel w0 ν σ w) {u : TypeId} {x : Opd} (hok : okOp S o.op (.cast u x) = true) (h : stepOp S.tab cf q (.cast u x) env σ = some (v, σ')) : OpG P w0 ν σ' v (execOp act.eval o) w := by
  simp only [okOp] at hok
  split at hok
  · rename_i s d y hop
    simp only [Bool.and_eq_true] at hok
    obtain ⟨⟨h1, h2⟩, h3⟩ := hok
    obtain ⟨ts, hs, hts⟩ := withTI_elim hB.tt h2
    obtain ⟨td, hd, htd0⟩ := withTI_elim hB.tt h3
    simp only [Bool.and_eq_true] at htd0
    obtain ⟨htd, h4⟩ := htd0
    obtain ⟨tu, hu, htu⟩ := withTI_elim hB.tt h4
    simp only [decide_eq_true_eq] at hts htd
    have hu0 : tu.size ≠ 0 := by simpa using htu
    have hx := opd_sim hB henv h1
    have := (sim_cast (P := P) hrel S.tab hB.casts hs hts hd htd hu hu0 hx env rfl (by simpa only [stepOp] using h)).value
    simpa only [execOp, hop] using this
  · simp at hok

theorem sim_slStrO (hB : Base P S w0) (henv : EnvR w0 ν S.tab env act.tmps) (hrel : Rel w0 ν σ w) {x : Opd} {lo hi : Option Opd} (hok : okOp S o.op (.slStr x lo hi) = true) (h : stepOp S.tab cf q (.slStr x lo hi) env σ = some (v, σ')) : OpG P w0 ν σ' v (execOp act.eval o) w := by
  simp only [okOp] at hok
  split at hok
  · rename_i t y lo' hi' mx' hop
    simp only [Bool.and_eq_true] at hok
    obtain ⟨⟨⟨⟨h1, h2⟩, h3⟩, h4⟩, h5⟩ := hok
    obtain ⟨ti, ht, hti⟩ := withTI_elim hB.tt h5
    simp only [decide_eq_true_eq] at hti
    have hmx : mx' = none := by cases mx' <;> simp [okOpdO] at h4; rfl
    subst hmx
    have hx := opd_sim hB henv h1
    simp only [stepOp, opSlStr] at h
    split at h
    · rename_i s hxv
      rw [hxv] at hx
      split at h
      · rename_i l hh hb
        split at h
        · rename_i r hr
          simp only [Option.some.injEq, Prod.mk.injEq] at h; obtain ⟨rfl, rfl⟩ := h
          have := (sim_slStr (P := P) hrel ht hti hx (opdO_sim hB henv h2) (opdO_sim hB henv h3) hb hr).value
          simpa only [execOp, hop, Option.map_none] using this
        · simp at h
      · simp at h
    · simp at h
  · simp at hok

theorem sim_slSlO (hB : Base P S w0) (henv : EnvR w0 ν S.tab env act.tmps) (hrel : Rel w0 ν σ w) {s : Nat} {x : Opd} {lo hi mx : Option Opd} (hok : okOp S o.op (.slSl s x lo hi mx) = true) (h : stepOp S.tab cf q (.slSl s x lo hi mx) env σ = some (v, σ')) : OpG P w0 ν σ' v (execOp act.eval o) w := by
  simp only [okOp] at hok
  split at hok
  · rename_i t y lo' hi' mx' hop
    simp only [Bool.and_eq_true] at hok
    obtain ⟨⟨⟨⟨h1, h2⟩, h3⟩, h4⟩, h5⟩ := hok
    obtain ⟨ti, ht, hf⟩ := withTI_elim hB.tt h5
    split at hf
    · rename_i e hti
      obtain ⟨te, he, hte⟩ := withTI_elim hB.tt hf
      simp only [beq_iff_eq] at hte; subst hte
      have := (sim_slSl (P := P) hrel ht hti he (opd_sim hB henv h1) S.tab env (opdO_sim hB henv h2) (opdO_sim hB henv h3) (opdO_sim hB henv h4) rfl (by simpa only [stepOp] using h)).value
      simpa only [execOp, hop] using this
    · simp at hf
  · simp at hok

theorem sim_slArrO (hB : Base P S w0) (henv : EnvR w0 ν S.tab env act.tmps) (hrel : Rel w0 ν σ w) {n s : Nat} {x : Opd} {lo hi mx : Option Opd} (hok : okOp S o.op (.slArr n s x lo hi mx) = true) (h : stepOp S.tab cf q (.slArr n s x lo hi mx) env σ = some (v, σ')) : OpG P w0 ν σ' v (execOp act.eval o) w := by
  simp only [okOp] at hok
  split at hok
  · rename_i t y lo' hi' mx' hop
    simp only [Bool.and_eq_true] at hok
    obtain ⟨⟨⟨⟨h1, h2⟩, h3⟩, h4⟩, h5⟩ := hok
    obtain ⟨ti, ht, hf⟩ := withTI_elim hB.tt h5
    split at hf
    · rename_i n' e hti
      simp only [Bool.and_eq_true, beq_iff_eq] at hf
      obtain ⟨rfl, hf⟩ := hf
      obtain ⟨te, he, hte⟩ := withTI_elim hB.tt hf
      simp only [beq_iff_eq] at hte; subst hte
      have := (sim_slArr (P := P) hrel ht hti he (opd_sim hB henv h1) S.tab env (opdO_sim hB henv h2) (opdO_sim hB henv h3) (opdO_sim hB henv h4) rfl (by simpa only [stepOp] using h)).value
      simpa only [execOp, hop] using this
    · simp at hf
  · simp at hok

theorem sim_fieldAddrO (hB : Base P S w0) (henv : EnvR w0 ν S.tab env act.tmps) (hrel : Rel w0 ν σ w) {off : Nat} {x : Opd} (hok : okOp S o.op (.fieldAddr off x) = true) (h : stepOp S.tab cf q (.fieldAddr off x) env σ = some (v, σ')) : OpG P w0 ν σ' v (execOp act.eval o) w := by
  simp only [okOp] at hok
  split at hok
  · rename_i t y i hop
    simp only [Bool.and_eq_true] at hok
    obtain ⟨h1, h2⟩ := hok
    obtain ⟨ti, ht, hf⟩ := withTI_elim hB.tt h2
    split at hf
    · rename_i fs hti
      split at hf
      · rename_i f ft hfi
        simp only [Bool.and_eq_true, beq_iff_eq] at hf
        obtain ⟨rfl, hf⟩ := hf
        obtain ⟨te, he, hte⟩ := withTI_elim hB.tt hf
        have hte' : te.size ≠ 0 := by simpa using hte
        have := (sim_fieldAddr (P := P) hrel ht hti hfi he hte' (opd_sim hB henv h1) S.tab env rfl (by simpa only [stepOp] using h)).value
        simpa only [execOp, hop] using this
      · simp at hf
    · simp at hf
  · simp at hok

theorem sim_fieldO (hB : Base P S w0) (henv : EnvR w0 ν S.tab env act.tmps) (hrel : Rel w0 ν σ w) {off : Nat} {agg : Option Nat} {x : Opd} (hok : okOp S o.op (.field off agg x) = true) (h : stepOp S.tab cf q (.field off agg x) env σ = some (v, σ')) : OpG P w0 ν σ' v (execOp act.eval o) w := by
  simp only [okOp] at hok
  split at hok
  · rename_i t y i hop
    simp only [Bool.and_eq_true] at hok
    obtain ⟨h1, h2⟩ := hok
    obtain ⟨ti, ht, hf⟩ := withTI_elim hB.tt h2
    split at hf
    · rename_i fs hti
      split at hf
      · rename_i f ft hfi
        simp only [Bool.and_eq_true, beq_iff_eq] at hf
        obtain ⟨rfl, hf⟩ := hf
        obtain ⟨te, he, hte⟩ := withTI_elim hB.tt hf
        simp only [decide_eq_true_eq] at hte; subst hte
        have := (sim_field (P := P) hrel ht hti hfi he (opd_sim hB henv h1) S.tab env rfl (by simpa only [stepOp] using h)).value
        simpa only [execOp, hop] using this
      · simp at hf
    · simp at hf
  · simp at hok

theorem sim_iaSlO (hB : Base P S w0) (henv : EnvR w0 ν S.tab env act.tmps) (hrel : Rel w0 ν σ w) {s : Nat} {x i : Opd} (hok : okOp S o.op (.iaSl s x i) = true) (h : stepOp S.tab cf q (.iaSl s x i) env σ = some (v, σ')) : OpG P w0 ν σ' v (execOp act.eval o) w := by
  simp only [okOp] at hok
  split at hok
  · rename_i t y j hop
    simp only [Bool.and_eq_true] at hok
    obtain ⟨⟨h1, h2⟩, h3⟩ := hok
    obtain ⟨ti, ht, hf⟩ := withTI_elim hB.tt h3
    split at hf
    · rename_i e hti
      obtain ⟨te, he, hte⟩ := withTI_elim hB.tt hf
      simp only [beq_iff_eq] at hte; subst hte
      have := (sim_iaSl (P := P) hrel ht hti he (opd_sim hB henv h1) (opd_sim hB henv h2) S.tab env rfl rfl (by simpa only [stepOp] using h)).value
      simpa only [execOp, hop] using this
    · simp at hf
  · simp at hok

theorem sim_iaArrO (hB : Base P S w0) (henv : EnvR w0 ν S.tab env act.tmps) (hrel : Rel w0 ν σ w) {len s : Nat} {x i : Opd} (hok : okOp S o.op (.iaArr len s x i) = true) (h : stepOp S.tab cf q (.iaArr len s x i) env σ = some (v, σ')) : OpG P w0 ν σ' v (execOp act.eval o) w := by
  simp only [okOp] at hok
  split at hok
  · rename_i t y j hop
    simp only [Bool.and_eq_true] at hok
    obtain ⟨⟨h1, h2⟩, h3⟩ := hok
    obtain ⟨ti, ht, hf⟩ := withTI_elim hB.tt h3
    split at hf
    · rename_i n e hti
      simp only [Bool.and_eq_true, beq_iff_eq] at hf
      obtain ⟨rfl, hf⟩ := hf
      obtain ⟨te, he, hte⟩ := withTI_elim hB.tt hf
      simp only [beq_iff_eq] at hte; subst hte
      have := (sim_iaArr (P := P) hrel ht hti he (opd_sim hB henv h1) (opd_sim hB henv h2) S.tab env rfl rfl (by simpa only [stepOp] using h)).value
      simpa only [execOp, hop] using this
    · simp at hf
  · simp at hok

theorem sim_ixArrO (hB : Base P S w0) (henv : EnvR w0 ν S.tab env act.tmps) (hrel : Rel w0 ν σ w) {len s : Nat} {agg : Bool} {x i : Opd} (hok : okOp S o.op (.ixArr len s agg x i) = true) (h : stepOp S.tab cf q (.ixArr len s agg x i) env σ = some (v, σ')) : OpG P w0 ν σ' v (execOp act.eval o) w := by
  simp only [okOp] at hok
  split at hok
  · rename_i t y j hop
    simp only [Bool.and_eq_true] at hok
    obtain ⟨⟨h1, h2⟩, h3⟩ := hok
    obtain ⟨ti, ht, hf⟩ := withTI_elim hB.tt h3
    split at hf
    · rename_i n e hti
      simp only [Bool.and_eq_true, beq_iff_eq] at hf
      obtain ⟨rfl, hf⟩ := hf
      obtain ⟨te, he, hte⟩ := withTI_elim hB.tt hf
      simp only [Bool.and_eq_true, beq_iff_eq] at hte
      obtain ⟨rfl, rfl⟩ := hte
      have := (sim_ixArr (P := P) hrel ht hti he (opd_sim hB henv h1) (opd_sim hB henv h2) S.tab env rfl rfl (by simpa only [stepOp] using h)).value
      simpa only [execOp, hop] using this
    · simp at hf
  · simp at hok

theorem sim_ixStrO (hB : Base P S w0) (henv : EnvR w0 ν S.tab env act.tmps) (hrel : Rel w0 ν σ w) {x i : Opd} (hok : okOp S o.op (.ixStr x i) = true) (h : stepOp S.tab cf q (.ixStr x i) env σ = some (v, σ')) : OpG P w0 ν σ' v (execOp act.eval o) w := by
  simp only [okOp] at hok
  split at hok
  · rename_i t y j hop
    simp only [Bool.and_eq_true] at hok
    obtain ⟨⟨h1, h2⟩, h3⟩ := hok
    obtain ⟨ti, ht, hti⟩ := withTI_elim hB.tt h3
    simp only [decide_eq_true_eq] at hti
    have := (sim_ixStr (P := P) hrel ht hti (opd_sim hB henv h1) (opd_sim hB henv h2) S.tab env rfl rfl (by simpa only [stepOp] using h)).value
    simpa only [execOp, hop] using this
  · simp at hok

theorem sim_rangeO (hB : Base P S w0) (henv : EnvR w0 ν S.tab env act.tmps) (hrel : Rel w0 ν σ w) {x : Opd} (hok : okOp S o.op (.range x) = true) (h : stepOp S.tab cf q (.range x) env σ = some (v, σ')) : OpG P w0 ν σ' v (execOp act.eval o) w := by
  cases q with
  | true => simp [stepOp, opRange] at h
  | false =>
    simp only [okOp] at hok
    split at hok
    · rename_i t y hop
      simp only [Bool.and_eq_true] at hok
      obtain ⟨h1, h2⟩ := hok
      obtain ⟨ti, ht, hti⟩ := withTI_elim hB.tt h2
      simp only [decide_eq_true_eq] at hti
      have hx := opd_sim hB henv h1
      simp only [stepOp, opRange, Bool.false_eq_true, if_false] at h
      split at h
      · rename_i s hxv
        simp only [St.newK_eq, Option.some.injEq, Prod.mk.injEq] at h; obtain ⟨rfl, rfl⟩ := h
        rw [hxv] at hx
        have := (sim_range (P := P) hrel ht hti hx).value
        simpa only [execOp, hop] using this
      · simp at h
    · simp at hok

theorem sim_nextO (hB : Base P S w0) (henv : EnvR w0 ν S.tab env act.tmps) (hrel : Rel w0 ν σ w) {x : Opd} (hok : okOp S o.op (.next x) = true) (h : stepOp S.tab cf q (.next x) env σ = some (v, σ')) : OpG P w0 ν σ' v (execOp act.eval o) w := by
  cases q with
  | true => simp [stepOp, opNext] at h
  | false =>
    simp only [okOp] at hok
    split at hok
    · rename_i y hop
      have := (sim_next (P := P) hrel S.tab env (opd_sim hB henv hok) rfl (by simpa only [stepOp] using h) o.type).value
      simpa only [execOp, hop] using this
    · simp at hok

theorem sim_extractO (hB : Base P S w0) (henv : EnvR w0 ν S.tab env act.tmps) (hrel : Rel w0 ν σ w) {x : Opd} {i : Nat} (hok : okOp S o.op (.extract x i) = true) (h : stepOp S.tab cf q (.extract x i) env σ = some (v, σ')) : OpG P w0 ν σ' v (execOp act.eval o) w := by
  simp only [okOp] at hok
  split at hok
  · rename_i y j hop
    simp only [Bool.and_eq_true, beq_iff_eq] at hok
    obtain ⟨h1, rfl⟩ := hok
    have := (sim_extract (P := P) hrel (opd_sim hB henv h1) S.tab env rfl (by simpa only [stepOp] using h)).value
    simpa only [execOp, hop] using this
  · simp at hok

theorem sim_callO (hB : Base P S w0) (henv : EnvR w0 ν S.tab env act.tmps) (hrel : Rel w0 ν σ w) (hcf : CFok P w0 cf) {f : Nat} {args : List Opd} (hok : okOp S o.op (.call f args) = true) (h : stepOp S.tab cf q (.call f args) env σ = some (v, σ')) : OpG P w0 ν σ' v (execOp act.eval o) w := by
  simp only [okOp] at hok
  split at hok
  · rename_i g as ts hop
    simp only [Bool.and_eq_true, beq_iff_eq] at hok
    obtain ⟨⟨rfl, _⟩, h2⟩ := hok
    simp only [stepOp, opCall] at h
    obtain ⟨hent, hcall⟩ := hcf _ _ _ _ _ _ h
    have hv := opds_sim hB henv h2
    refine .inr ⟨g, (as.toList.map act.eval).toArray, ?_, hcall ν w _ hv hrel⟩
    have he : as.map act.eval = (as.toList.map act.eval).toArray := by apply Array.ext'; simp
    simp only [execOp, hop, resolve, Act.eval, Deferred.ofValue, Sem.run_bind, Sem.run_pure, Result.andThen_ok, invoke]
    rw [show #[] ++ as.map act.eval ++ #[] = (as.toList.map act.eval).toArray by rw [he]; simp]
    exact enter_sim hent _
  · simp at hok

theorem sim_callVO (hB : Base P S w0) (henv : EnvR w0 ν S.tab env act.tmps) (hrel : Rel w0 ν σ w) (hcf : CFok P w0 cf) {fn : Opd} {args : List Opd} (hok : okOp S o.op (.callV fn args) = true) (h : stepOp S.tab cf q (.callV fn args) env σ = some (v, σ')) : OpG P w0 ν σ' v (execOp act.eval o) w := by
  simp only [okOp] at hok
  split at hok
  · rename_i g as ts hop
    simp only [Bool.and_eq_true] at hok
    obtain ⟨h1, h2⟩ := hok
    have hx := opd_sim hB henv h1
    simp only [stepOp, opCallV] at h
    split at h
    · rename_i f first cap hxv
      rw [hxv] at hx
      simp only [VR] at hx
      obtain ⟨fs, cs, he, hfs, hcs⟩ := hx
      obtain ⟨hent, hcall⟩ := hcf _ _ _ _ _ _ h
      have hv := VRs_append (VRs_append hfs (opds_sim hB henv h2)) hcs
      refine .inr ⟨f, (fs ++ as.toList.map act.eval ++ cs).toArray, ?_, hcall ν w _ hv hrel⟩
      have hm : as.map act.eval = (as.toList.map act.eval).toArray := by apply Array.ext'; simp
      simp only [execOp, hop, resolve, he, Deferred.ofValue, Sem.run_bind, Sem.run_pure, Result.andThen_ok, invoke]
      rw [show fs.toArray ++ as.map act.eval ++ cs.toArray = (fs ++ as.toList.map act.eval ++ cs).toArray by rw [hm]; simp]
      exact enter_sim hent _
    · simp at h
  · simp at hok

theorem sim_extO (hB : Base P S w0) (henv : EnvR w0 ν S.tab env act.tmps) (hrel : Rel w0 ν σ w) {e : Ext} {args : List Opd} (hok : okOp S o.op (.ext e args) = true) (h : stepOp S.tab cf q (.ext e args) env σ = some (v, σ')) : OpG P w0 ν σ' v (execOp act.eval o) w := by
  simp only [okOp] at hok
  split at hok
  · rename_i g as ts hop
    simp only [Bool.and_eq_true] at hok
    obtain ⟨h1, h2⟩ := hok
    split at h1
    · rename_i e' he'
      have hee : e = e' := by cases e <;> cases e' <;> first | rfl | (simp [eqExt] at h1)
      subst hee
      simp only [stepOp, opExt] at h
      split at h
      · rename_i r hr
        simp only [Option.some.injEq, Prod.mk.injEq] at h; obtain ⟨rfl, rfl⟩ := h
        have := ext_sim hrel (hB.ext _ _ he') (opds_sim hB henv h2) hr
        have hm : as.map act.eval = (as.toList.map act.eval).toArray := by apply Array.ext'; simp
        have hrun : (execOp act.eval o).run P w = (callFunc g (as.toList.map act.eval).toArray).run P w := by
          simp only [execOp, hop, resolve, Act.eval, Deferred.ofValue, Sem.run_bind, Sem.run_pure, Result.andThen_ok, invoke]
          rw [show #[] ++ as.map act.eval ++ #[] = (as.toList.map act.eval).toArray by rw [hm]; simp]
        rcases this with ⟨ν', x, w', a1, a2, a3, a4⟩ | ⟨f, xs, a1, a2⟩
        · exact .inl ⟨ν', x, w', a1, a2, a3, by rw [hrun]; exact a4⟩
        · exact .inr ⟨f, xs, by rw [hrun]; exact a1, a2⟩
      · simp at h
    · simp at h1
  · simp at hok

theorem sim_appendO (hB : Base P S w0) (henv : EnvR w0 ν S.tab env act.tmps) (hrel : Rel w0 ν σ w) {e : TypeId} {s bytes : Nat} {x y : Opd} (hok : okOp S o.op (.append e s bytes x y) = true) (h : stepOp S.tab cf q (.append e s bytes x y) env σ = some (v, σ')) : OpG P w0 ν σ' v (execOp act.eval o) w := by
  cases q with
  | true => simp [stepOp, opAppend] at h
  | false =>
    simp only [okOp] at hok
    split at hok
    · rename_i as ts hop
      simp only [Bool.and_eq_true] at hok
      obtain ⟨h1, h2⟩ := hok
      split at h2
      · rename_i t u hts
        simp only [Bool.and_eq_true] at h2
        obtain ⟨⟨h3, h4⟩, h5⟩ := h2
        obtain ⟨ti, ht, hti⟩ := withTI_elim hB.tt h3
        obtain ⟨te, he, hte⟩ := withTI_elim hB.tt h4
        obtain ⟨tu, hu, htu⟩ := withTI_elim hB.tt h5
        simp only [Bool.and_eq_true, beq_iff_eq, decide_eq_true_eq] at hti hte
        obtain ⟨⟨⟨⟨rfl, rfl⟩, hz⟩, hs⟩, hb0⟩ := hte
        rw [lenL_eq] at hz
        have htu' : (∃ e', tu.d = .slice e') ∨ tu.d = .str := by
          split at htu
          · rename_i e' he'; exact .inl ⟨e', he'⟩
          · rename_i he'; exact .inr he'
          · simp at htu
        have hv := opds_sim hB henv h1
        simp only [argsOf, VRs] at hv
        obtain ⟨xx, l1, e1, hx, yy, l2, rfl, hy, rfl⟩ := hv
        have hargs : as.map act.eval = #[xx, yy] := by
          apply Array.ext'
          rw [Array.toList_map, e1]
        have htsa : ts = #[t, u] := by apply Array.ext'; exact hts
        have := (sim_append (P := P) hrel ht hti he hz hs hb0 hu htu' hx hy S.tab env rfl rfl (by simpa only [stepOp] using h) ts htsa o.type).value
        simpa only [execOp, hop, resolve, Sem.run_bind, Sem.run_pure, Result.andThen_ok, invoke, Go.builtin, hargs, pure_bind] using this
      · simp at h2
    · simp at hok

theorem sim_lenO (hB : Base P S w0) (henv : EnvR w0 ν S.tab env act.tmps) (hrel : Rel w0 ν σ w) {s : Bool} {x : Opd} (hok : okOp S o.op (.len s x) = true) (h : stepOp S.tab cf q (.len s x) env σ = some (v, σ')) : OpG P w0 ν σ' v (execOp act.eval o) w := by
  simp only [okOp] at hok
  split at hok
  · rename_i as ts hop
    simp only [Bool.and_eq_true] at hok
    obtain ⟨h1, h2⟩ := hok
    split at h2
    · rename_i t hts
      obtain ⟨ti, ht, hf⟩ := withTI_elim hB.tt h2
      have hti : (s = false ∧ ∃ e, ti.d = .slice e) ∨ (s = true ∧ ti.d = .str) := by
        split at hf
        · rename_i e he; exact .inl ⟨by simpa using hf, e, he⟩
        · rename_i he; exact .inr ⟨hf, he⟩
        · simp at hf
      have hv := opds_sim hB henv h1
      simp only [argsOf, VRs] at hv
      obtain ⟨xx, l1, e1, hx, rfl⟩ := hv
      have hargs : as.map act.eval = #[xx] := by
        apply Array.ext'
        rw [Array.toList_map, e1]
      have htsa : ts = #[t] := by apply Array.ext'; exact hts
      subst htsa
      have := (sim_len (P := P) hrel ht hti hx S.tab env rfl (by simpa only [stepOp] using h) o.type).value
      simpa only [execOp, hop, resolve, Sem.run_bind, Sem.run_pure, Result.andThen_ok, invoke, Go.builtin, hargs, pure_bind] using this
    · simp at h2
  · simp at hok

theorem sim_lenArrO (hB : Base P S w0) (henv : EnvR w0 ν S.tab env act.tmps) (hrel : Rel w0 ν σ w) {n : Nat} (hok : okOp S o.op (.lenArr n) = true) (h : stepOp S.tab cf q (.lenArr n) env σ = some (v, σ')) : OpG P w0 ν σ' v (execOp act.eval o) w := by
  simp only [okOp] at hok
  split at hok
  · rename_i as ts hop
    simp only [Bool.and_eq_true, beq_iff_eq] at hok
    obtain ⟨h1, h2⟩ := hok
    split at h2
    · rename_i t hts
      obtain ⟨ti, ht, hf⟩ := withTI_elim hB.tt h2
      have hti : (∃ e, ti.d = .arr n e) ∨ ∃ e te a, ti.d = .ptr e ∧ OkTI P e te ∧ te.d = .arr n a := by
        split at hf
        · rename_i m e he; simp at hf; subst hf; exact .inl ⟨e, he⟩
        · rename_i e he
          obtain ⟨te, hte, hf2⟩ := withTI_elim hB.tt hf
          split at hf2
          · rename_i m a hm; simp at hf2; subst hf2; exact .inr ⟨e, te, a, he, hte, hm⟩
          · simp at hf2
        · simp at hf
      rw [lenL_eq] at h1
      obtain ⟨a0, ha0⟩ : ∃ a0, as.toList = [a0] := by
        match as.toList, h1 with
        | [a0], _ => exact ⟨a0, rfl⟩
      have hargs : as.map act.eval = #[act.eval a0] := by
        apply Array.ext'
        rw [Array.toList_map, ha0]; rfl
      have htsa : ts = #[t] := by apply Array.ext'; exact hts
      subst htsa
      simp only [stepOp, opLenArr, Option.some.injEq, Prod.mk.injEq] at h; obtain ⟨rfl, rfl⟩ := h
      have := (sim_lenArr (P := P) hrel ht hti (act.eval a0) o.type).value
      simpa only [execOp, hop, resolve, Sem.run_bind, Sem.run_pure, Result.andThen_ok, invoke, Go.builtin, hargs, pure_bind] using this
    · simp at h2
  · simp at hok

theorem sim_mnO (hB : Base P S w0) (henv : EnvR w0 ν S.tab env act.tmps) (hrel : Rel w0 ν σ w) {x y : Opd} (hok : okOp S o.op (.mn x y) = true) (h : stepOp S.tab cf q (.mn x y) env σ = some (v, σ')) : OpG P w0 ν σ' v (execOp act.eval o) w := by
  simp only [okOp] at hok
  split at hok
  · rename_i as ts hop
    have hv := opds_sim hB henv hok
    simp only [argsOf, VRs] at hv
    obtain ⟨xx, l1, e1, hx, yy, l2, rfl, hy, rfl⟩ := hv
    have hargs : as.map act.eval = #[xx, yy] := by
      apply Array.ext'
      rw [Array.toList_map, e1]
    simp only [stepOp, opMn] at h
    split at h
    · rename_i k a k' b hxv hyv
      simp only [Option.some.injEq, Prod.mk.injEq] at h; obtain ⟨rfl, rfl⟩ := h
      rw [hxv] at hx; rw [hyv] at hy
      simp only [VR] at hx hy; subst hx; subst hy
      refine .pure hrel (x := .int k (if b < a then b else a)) (by simp only [VR]) ?_
      simp [execOp, hop, resolve, invoke, Go.builtin, hargs, Builtin.min_, Builtin.min2]
    · simp at h
  · simp at hok

theorem sim_mxO (hB : Base P S w0) (henv : EnvR w0 ν S.tab env act.tmps) (hrel : Rel w0 ν σ w) {x y : Opd} (hok : okOp S o.op (.mx x y) = true) (h : stepOp S.tab cf q (.mx x y) env σ = some (v, σ')) : OpG P w0 ν σ' v (execOp act.eval o) w := by
  simp only [okOp] at hok
  split at hok
  · rename_i as ts hop
    have hv := opds_sim hB henv hok
    simp only [argsOf, VRs] at hv
    obtain ⟨xx, l1, e1, hx, yy, l2, rfl, hy, rfl⟩ := hv
    have hargs : as.map act.eval = #[xx, yy] := by
      apply Array.ext'
      rw [Array.toList_map, e1]
    simp only [stepOp, opMx] at h
    split at h
    · rename_i k a k' b hxv hyv
      simp only [Option.some.injEq, Prod.mk.injEq] at h; obtain ⟨rfl, rfl⟩ := h
      rw [hxv] at hx; rw [hyv] at hy
      simp only [VR] at hx hy; subst hx; subst hy
      refine .pure hrel (x := .int k (if a < b then b else a)) (by simp only [VR]) ?_
      simp [execOp, hop, resolve, invoke, Go.builtin, hargs, Builtin.max_, Builtin.max2]
    · simp at h
  · simp at hok

theorem sim_mkFuncO (hB : Base P S w0) (henv : EnvR w0 ν S.tab env act.tmps) (hrel : Rel w0 ν σ w) {f : Nat} {first cap : List Opd} (hok : okOp S o.op (.mkFunc f first cap) = true) (h : stepOp S.tab cf q (.mkFunc f first cap) env σ = some (v, σ')) : OpG P w0 ν σ' v (execOp act.eval o) w := by
  simp only [okOp] at hok
  split at hok
  · rename_i g fs cs hop
    simp only [Bool.and_eq_true, beq_iff_eq] at hok
    obtain ⟨⟨rfl, h1⟩, h2⟩ := hok
    simp only [stepOp, opMkFunc, Option.some.injEq, Prod.mk.injEq] at h; obtain ⟨rfl, rfl⟩ := h
    have h3 := opds_sim hB henv h1
    have h4 := opds_sim hB henv h2
    have e1 : fs.map act.eval = (fs.toList.map act.eval).toArray := by apply Array.ext'; simp
    have e2 : cs.map act.eval = (cs.toList.map act.eval).toArray := by apply Array.ext'; simp
    refine .pure hrel (x := .func (.func g) (fs.map act.eval) (cs.map act.eval)) ?_ (by simp [execOp, hop, Instr.makeFunc])
    simp only [VR]; exact ⟨_, _, by rw [e1, e2], h3, h4⟩
  · simp at hok

theorem sim_mkSliceO (hB : Base P S w0) (henv : EnvR w0 ν S.tab env act.tmps) (hrel : Rel w0 ν σ w) {e : TypeId} {s bytes : Nat} {z : List AVal} {len cap : Opd} (hok : okOp S o.op (.mkSlice e s bytes z len cap) = true) (h : stepOp S.tab cf q (.mkSlice e s bytes z len cap) env σ = some (v, σ')) : OpG P w0 ν σ' v (execOp act.eval o) w := by
  cases q with
  | true => simp [stepOp, opMkSlice] at h
  | false =>
    simp only [okOp] at hok
    split at hok
    · rename_i t l c hop
      simp only [Bool.and_eq_true] at hok
      obtain ⟨⟨⟨h1, h2⟩, h3⟩, h4⟩ := hok
      obtain ⟨ti, ht, hti⟩ := withTI_elim hB.tt h3
      obtain ⟨te, he, hte⟩ := withTI_elim hB.tt h4
      simp only [Bool.and_eq_true, beq_iff_eq, decide_eq_true_eq] at hti hte
      obtain ⟨⟨⟨⟨rfl, rfl⟩, hz⟩, hzl⟩, hs⟩ := hte
      have := eqAs_eq _ _ hz; subst this
      rw [lenL_eq] at hzl
      have hl := opd_sim hB henv h1
      have hc := opd_sim hB henv h2
      simp only [stepOp, opMkSlice, Bool.false_eq_true, if_false] at h
      split at h
      · rename_i kl l' kc c' hlv hcv
        split at h
        · rename_i hcond
          simp only [St.newK_eq, Option.some.injEq, Prod.mk.injEq] at h; obtain ⟨rfl, rfl⟩ := h
          rw [hlv] at hl; rw [hcv] at hc
          have := (sim_mkSlice (P := P) hrel ht hti he hzl hs hl hc hcond.1 hcond.2.1 hcond.2.2.1 hcond.2.2.2).value
          simpa only [execOp, hop] using this
        · simp at h
      · simp at h
    · simp at hok

theorem sim_mkIfaceO (hB : Base P S w0) (henv : EnvR w0 ν S.tab env act.tmps) (hrel : Rel w0 ν σ w) {t : TypeId} {x : Opd} (hok : okOp S o.op (.mkIface t x) = true) (h : stepOp S.tab cf q (.mkIface t x) env σ = some (v, σ')) : OpG P w0 ν σ' v (execOp act.eval o) w := by
  simp only [okOp] at hok
  split at hok
  · rename_i t' y hop
    simp only [Bool.and_eq_true, beq_iff_eq] at hok
    obtain ⟨⟨rfl, h1⟩, h2⟩ := hok
    obtain ⟨ti, ht, hf⟩ := withTI_elim hB.tt h2
    obtain ⟨d, hd, hdd⟩ := ht.und
    simp only [stepOp, opMkIface, Option.some.injEq, Prod.mk.injEq] at h; obtain ⟨rfl, rfl⟩ := h
    refine .pure hrel (x := .iface t' (act.eval y)) (by simp only [VR]; exact ⟨_, rfl, opd_sim hB henv h1⟩) ?_
    cases d <;> simp [tdOf] at hdd
    all_goals first
      | (rw [← hdd] at hf; simp at hf; done)
      | simp [execOp, hop, Instr.makeInterface, run_underlying hd]
  · simp at hok

theorem sim_sliceDataO (hB : Base P S w0) (henv : EnvR w0 ν S.tab env act.tmps) (hrel : Rel w0 ν σ w) {x : Opd} (hok : okOp S o.op (.sliceData x) = true) (h : stepOp S.tab cf q (.sliceData x) env σ = some (v, σ')) : OpG P w0 ν σ' v (execOp act.eval o) w := by
  simp only [okOp] at hok
  split at hok
  · rename_i as ts hop
    have hv := opds_sim hB henv hok
    simp only [argsOf, VRs] at hv
    obtain ⟨xx, l1, e1, hx, rfl⟩ := hv
    have hargs : as.map act.eval = #[xx] := by
      apply Array.ext'
      rw [Array.toList_map, e1]
    have := (sim_sliceData (P := P) hrel hx S.tab env rfl (by simpa only [stepOp] using h) ts o.type).value
    simpa only [execOp, hop, resolve, Sem.run_bind, Sem.run_pure, Result.andThen_ok, invoke, Go.builtin, hargs, pure_bind] using this
  · simp at hok

theorem sim_unsafeStrO (hB : Base P S w0) (henv : EnvR w0 ν S.tab env act.tmps) (hrel : Rel w0 ν σ w) {e : TypeId} {x n : Opd} (hok : okOp S o.op (.unsafeStr e x n) = true) (h : stepOp S.tab cf q (.unsafeStr e x n) env σ = some (v, σ')) : OpG P w0 ν σ' v (execOp act.eval o) w := by
  cases q with
  | true => simp [stepOp, opUnsafeStr] at h
  | false =>
    simp only [okOp] at hok
    split at hok
    · rename_i as ts hop
      simp only [Bool.and_eq_true] at hok
      obtain ⟨h1, h2⟩ := hok
      split at h2
      · rename_i p it hts
        simp only [Bool.and_eq_true] at h2
        obtain ⟨h3, h4⟩ := h2
        obtain ⟨tp, hp, htp⟩ := withTI_elim hB.tt h3
        obtain ⟨te, he, hte⟩ := withTI_elim hB.tt h4
        simp only [Bool.and_eq_true, beq_iff_eq, decide_eq_true_eq] at htp hte
        have hv := opds_sim hB henv h1
        simp only [argsOf, VRs] at hv
        obtain ⟨xx, l1, e1, hx, yy, l2, rfl, hy, rfl⟩ := hv
        have hargs : as.map act.eval = #[xx, yy] := by
          apply Array.ext'
          rw [Array.toList_map, e1]
        have htsa : ts = #[p, it] := by apply Array.ext'; exact hts
        subst htsa
        have := (sim_unsafeStr (P := P) hrel hp htp he hte.2 hx hy S.tab env rfl rfl (by simpa only [stepOp] using h) it o.type).value
        simpa only [execOp, hop, resolve, Sem.run_bind, Sem.run_pure, Result.andThen_ok, invoke, Go.builtin, hargs, pure_bind] using this
      · simp at h2
    · simp at hok
end
end Go.Ab

namespace Go.Ab
open Go Go.RowKit
section
variable {P : Program} {S : Stat} {w0 w : World} {ν : List Place} {σ σ' : St} {env : Env} {act : Act} {v : AVal} {cf : CF} {q : Bool} {o : Oper}

theorem sim_op (hB : Base P S w0) (henv : EnvR w0 ν S.tab env act.tmps) (hrel : Rel w0 ν σ w) (hcf : CFok P w0 cf) {a : AOp} (hok : okOp S o.op a = true) (h : stepOp S.tab cf q a env σ = some (v, σ')) :
    OpG P w0 ν σ' v (execOp act.eval o) w := by
  cases a with
  | mov x =>
    simp only [stepOp, opMov, Option.some.injEq, Prod.mk.injEq] at h
    obtain ⟨rfl, rfl⟩ := h
    simp only [okOp] at hok
    split at hok
    · rename_i y hop; exact .pure hrel (opd_sim hB henv hok) (by simp [execOp, hop])
    · rename_i y hop; exact .pure hrel (opd_sim hB henv hok) (by simp [execOp, hop])
    · simp at hok
  | pick c x y =>
    simp only [okOp] at hok
    split at hok
    · rename_i c' x' y' hop
      simp only [Bool.and_eq_true] at hok
      obtain ⟨⟨h1, h2⟩, h3⟩ := hok
      have hc := opd_sim hB henv h1
      simp only [stepOp, opPick] at h
      split at h
      · rename_i hcv
        simp only [Option.some.injEq, Prod.mk.injEq] at h; obtain ⟨rfl, rfl⟩ := h
        rw [hcv] at hc; simp only [VR] at hc
        exact .pure hrel (opd_sim hB henv h2) (by simp [execOp, hop, hc, asBool])
      · rename_i hcv
        simp only [Option.some.injEq, Prod.mk.injEq] at h; obtain ⟨rfl, rfl⟩ := h
        rw [hcv] at hc; simp only [VR] at hc
        exact .pure hrel (opd_sim hB henv h3) (by simp [execOp, hop, hc, asBool])
      · simp at h
    · simp at hok
  | alloc e z =>
    cases q with
    | true => simp [stepOp, opAlloc] at h
    | false =>
      simp only [okOp] at hok
      split at hok
      · rename_i t hop
        simp only [Bool.and_eq_true, beq_iff_eq] at hok
        obtain ⟨rfl, hti⟩ := hok
        obtain ⟨ti, ht, hz⟩ := withTI_elim hB.tt hti
        have := eqAs_eq _ _ hz; subst this
        simp only [stepOp, opAlloc, Bool.false_eq_true, if_false, St.newK_eq, Option.some.injEq, Prod.mk.injEq] at h
        obtain ⟨rfl, rfl⟩ := h
        have := (sim_alloc (P := P) hrel ht).value
        simpa only [execOp, hop] using this
      · simp at hok
  | box e x =>
    cases q with
    | true => simp [stepOp, opBox] at h
    | false =>
      simp only [okOp] at hok
      split at hok
      · rename_i t y hop
        simp only [Bool.and_eq_true, beq_iff_eq] at hok
        obtain ⟨rfl, h1⟩ := hok
        simp only [stepOp, opBox, Bool.false_eq_true, if_false, St.newK_eq, Option.some.injEq, Prod.mk.injEq] at h
        obtain ⟨rfl, rfl⟩ := h
        have := (sim_box (P := P) hrel t (opd_sim hB henv h1)).value
        simpa only [execOp, hop] using this
      · simp at hok
  | build z parts =>
    simp only [okOp] at hok
    split at hok
    · rename_i t ps hop
      obtain ⟨ti, ht, hf⟩ := withTI_elim hB.tt hok
      simp only [Bool.and_eq_true] at hf
      obtain ⟨hz, hp⟩ := hf
      have := eqAs_eq _ _ hz; subst this
      simp only [stepOp, opBuild] at h
      split at h
      · rename_i cs hfill
        simp only [Option.some.injEq, Prod.mk.injEq] at h; obtain ⟨rfl, rfl⟩ := h
        have hmap : (ps.map fun (i, x) => (i, act.eval x)).toList = ps.toList.map fun p => (p.1, act.eval p.2) := by simp
        split at hp
        · rename_i fs hfs
          simp only [Bool.and_eq_true] at hp
          have := (sim_build_struct (P := P) hrel S hB.tt ht hfs hp.1 (qs := ps.map fun (i, x) => (i, act.eval x)) (by rw [hmap]; exact parts_sim hB henv _ hp.2) hfill).value
          simpa only [execOp, hop] using this
        · rename_i n e hfs
          obtain ⟨te, he, hpp⟩ := withTI_elim hB.tt hp
          have := (sim_build_arr (P := P) hrel ht hfs he (qs := ps.map fun (i, x) => (i, act.eval x)) (by rw [hmap]; exact parts_sim hB henv _ hpp) hfill).value
          simpa only [execOp, hop] using this
        · simp at hp
      · simp at h
    · simp at hok
  | buildSlice e s len z parts =>
    cases q with
    | true => simp [stepOp, opBuildSlice] at h
    | false =>
      simp only [okOp] at hok
      split at hok
      · rename_i t len' ps hop
        obtain ⟨ti, ht, hf⟩ := withTI_elim hB.tt hok
        simp only [Bool.and_eq_true, beq_iff_eq, decide_eq_true_eq] at hf
        obtain ⟨⟨⟨⟨hd, rfl⟩, hs⟩, hl⟩, hte⟩ := hf
        obtain ⟨te, he, hf2⟩ := withTI_elim hB.tt hte
        simp only [Bool.and_eq_true, beq_iff_eq] at hf2
        obtain ⟨⟨⟨rfl, hz⟩, hzl⟩, hp⟩ := hf2
        have := eqAs_eq _ _ hz; subst this
        rw [lenL_eq] at hzl
        have hti : ti.d = .slice e := by
          split at hd
          · rename_i e' heq; simp at hd; subst hd; exact heq
          · simp at hd
        simp only [stepOp, opBuildSlice, Bool.false_eq_true, if_false] at h
        split at h
        · rename_i cs hfill
          simp only [St.newK_eq, Option.some.injEq, Prod.mk.injEq] at h; obtain ⟨rfl, rfl⟩ := h
          have hmap : (ps.map fun (i, x) => (i, act.eval x)).toList = ps.toList.map fun p => (p.1, act.eval p.2) := by simp
          have := (sim_buildSlice (P := P) hrel ht hti he hzl hs hl (qs := ps.map fun (i, x) => (i, act.eval x)) (by rw [hmap]; exact parts_sim hB henv _ hp) hfill).value
          simpa only [execOp, hop] using this
        · simp at h
      · simp at hok
  | load agg x =>
    simp only [okOp] at hok
    split at hok
    · rename_i t y hop
      simp only [Bool.and_eq_true] at hok
      obtain ⟨h1, h2⟩ := hok
      obtain ⟨ti, ht, hf⟩ := withTI_elim hB.tt h2
      simp only [decide_eq_true_eq] at hf; subst hf
      have hx := opd_sim hB henv h1
      simp only [stepOp, opLoad] at h
      split at h
      · rename_i b i hxv
        rw [hxv] at hx
        split at h
        · rename_i f e cs hb
          split at h
          · rename_i l hdr
            split at h
            · rename_i r hl
              simp only [Option.some.injEq, Prod.mk.injEq] at h; obtain ⟨rfl, rfl⟩ := h
              have := (sim_load_ptr (P := P) hrel ht hb hdr hl hx).value
              simpa only [execOp, hop] using this
            · simp at h
          · simp at h
        · simp at h
      · rename_i cs hxv
        rw [hxv] at hx
        split at h
        · rename_i r hl
          simp only [Option.some.injEq, Prod.mk.injEq] at h; obtain ⟨rfl, rfl⟩ := h
          have := (sim_load_rptr (P := P) hrel ht hl hx).value
          simpa only [execOp, hop] using this
        · simp at h
      · simp at h
    · simp at hok
  | store n x u =>
    cases q with
    | true => simp [stepOp, opStore] at h
    | false =>
      simp only [okOp] at hok
      split at hok
      · rename_i t y u' hop
        simp only [Bool.and_eq_true] at hok
        obtain ⟨⟨h1, h2⟩, h3⟩ := hok
        obtain ⟨ti, ht, hf⟩ := withTI_elim hB.tt h3
        simp only [beq_iff_eq] at hf
        have hx := opd_sim hB henv h1
        have hu := opd_sim hB henv h2
        simp only [stepOp, opStore, Bool.false_eq_true, if_false] at h
        split at h
        · rename_i b i hxv
          rw [hxv] at hx
          split at h
          · rename_i f e cs hb
            split at h
            · rename_i hc
              split at h
              · rename_i cs' hput
                simp only [St.putK_eq, Option.some.injEq, Prod.mk.injEq] at h; obtain ⟨rfl, rfl⟩ := h
                obtain ⟨w', hrun, hr⟩ := sim_store (P := P) hrel ht hb hu (by rw [hc.1, hf]) hc.2 hput hx
                exact .inl ⟨ν, undef, w', List.prefix_refl _, VR_undef, hr, .inr ⟨by simp [execOp, hop, hrun], rfl⟩⟩
              · simp at h
            · simp at h
          · simp at h
        · simp at h
      · simp at hok
  | nilCheck x =>
    simp only [okOp] at hok
    split at hok
    · rename_i y hop
      have hx := opd_sim hB henv hok
      simp only [stepOp, opNilCheck] at h
      generalize hxv : x.ev S.tab env = xv at h hx
      cases xv <;> simp only [Option.some.injEq, Prod.mk.injEq, reduceCtorEq] at h
      all_goals
        obtain ⟨rfl, rfl⟩ := h
        have hx' := hx
        simp only [VR] at hx
      · exact .pure hrel hx' (by simp [execOp, hop, hx])
      · exact .pure hrel hx' (by simp [execOp, hop, hx])
      · obtain ⟨_, e, _⟩ := hx; exact .pure hrel hx' (by simp [execOp, hop, e])
      · obtain ⟨_, _, e⟩ := hx; exact .pure hrel hx' (by simp [execOp, hop, e])
      · obtain ⟨_, _, e, _⟩ := hx; exact .pure hrel hx' (by simp [execOp, hop, e])
      · exact .pure hrel hx' (by simp [execOp, hop, hx])
      · obtain ⟨_, _, _, _, e, _⟩ := hx; exact .pure hrel hx' (by simp [execOp, hop, e])
      · obtain ⟨_, _, e, _⟩ := hx; exact .pure hrel hx' (by simp [execOp, hop, e])
      · obtain ⟨_, _, e, _⟩ := hx; exact .pure hrel hx' (by simp [execOp, hop, e])
      · obtain ⟨_, e, _⟩ := hx; exact .pure hrel hx' (by simp [execOp, hop, e])
      · obtain ⟨_, e, _⟩ := hx; exact .pure hrel hx' (by simp [execOp, hop, e])
      · obtain ⟨_, e, _⟩ := hx; exact .pure hrel hx' (by simp [execOp, hop, e])
    · simp at hok
  | arith op x y => exact sim_arithO hB henv hrel hok h
  | strop op x y => exact sim_stropO hB henv hrel hok h
  | eq neg k x y => exact sim_eqO hB henv hrel hok h
  | not x => exact sim_notO hB henv hrel hok h
  | neg x => exact sim_negO hB henv hrel hok h
  | cpl x => exact sim_cplO hB henv hrel hok h
  | toInt k x => exact sim_toIntO hB henv hrel hok h
  | intStr x => exact sim_intStrO hB henv hrel hok h
  | bytes e x => exact sim_bytesO hB henv hrel hok h
  | runes e x => simp [okOp] at hok
  | strOf x => exact sim_strOfO hB henv hrel hok h
  | strRunes x => simp [okOp] at hok
  | stamp x => exact sim_stampO hB henv hrel hok h
  | toUnsafe x => exact sim_toUnsafeO hB henv hrel hok h
  | cast u x => exact sim_castO hB henv hrel hok h
  | slStr x lo hi => exact sim_slStrO hB henv hrel hok h
  | slSl s x lo hi mx => exact sim_slSlO hB henv hrel hok h
  | slArr n s x lo hi mx => exact sim_slArrO hB henv hrel hok h
  | fieldAddr off x => exact sim_fieldAddrO hB henv hrel hok h
  | field off agg x => exact sim_fieldO hB henv hrel hok h
  | iaSl s x i => exact sim_iaSlO hB henv hrel hok h
  | iaArr len s x i => exact sim_iaArrO hB henv hrel hok h
  | ixArr len s agg x i => exact sim_ixArrO hB henv hrel hok h
  | ixStr x i => exact sim_ixStrO hB henv hrel hok h
  | range x => exact sim_rangeO hB henv hrel hok h
  | next x => exact sim_nextO hB henv hrel hok h
  | extract x i => exact sim_extractO hB henv hrel hok h
  | call f args => exact sim_callO hB henv hrel hcf hok h
  | callV fn args => exact sim_callVO hB henv hrel hcf hok h
  | ext e args => exact sim_extO hB henv hrel hok h
  | append e s bytes x y => exact sim_appendO hB henv hrel hok h
  | len s x => exact sim_lenO hB henv hrel hok h
  | lenArr n => exact sim_lenArrO hB henv hrel hok h
  | mn x y => exact sim_mnO hB henv hrel hok h
  | mx x y => exact sim_mxO hB henv hrel hok h
  | mkFunc f first cap => exact sim_mkFuncO hB henv hrel hok h
  | mkSlice e s bytes z len cap => exact sim_mkSliceO hB henv hrel hok h
  | mkIface t x => exact sim_mkIfaceO hB henv hrel hok h
  | sliceData x => exact sim_sliceDataO hB henv hrel hok h
  | unsafeStr e x n => exact sim_unsafeStrO hB henv hrel hok h
end
end Go.Ab

namespace Go.Ab
open Go Go.RowKit
section
variable {P : Program} {S : Stat} {w0 w : World} {ν : List Place} {σ σ' : St} {env : Env} {act : Act} {v : AVal} {cf : CF} {q : Bool} {o : Oper}

theorem forceI_eq {β : Type} (n : Int) (k : Int → β) : forceI n k = k n := by
  cases n with
  | ofNat n => cases n <;> rfl
  | negSucc n => cases n <;> rfl

theorem forceV_eq {β : Type} (v : AVal) (k : AVal → β) : forceV v k = k v := by
  cases v <;> first | rfl | skip
  · rename_i b; cases b <;> rfl
  · exact forceI_eq _ (fun n => k (.int _ n))

noncomputable def setDst (o : AOper) (v : AVal) (env : Env) : Env := match o.dst with | none => env | some p => env.set p (some v)

theorem setDstK_eq {β : Type} (o : AOper) (v : AVal) (env : Env) (k : Env → β) : setDstK o v env k = k (setDst o v env) := by
  unfold setDstK setDst
  cases o.dst with
  | none => rfl
  | some p => simp only [forceV_eq, Tr.setK_eq]

theorem EnvR.mono {ν' : List Place} {T : Tab} {tmps : Array Value} (h : EnvR w0 ν T env tmps) (hν : ν <+: ν') : EnvR w0 ν' T env tmps := fun t => VR_mono hν _ _ (h t)

/-- What the check says of a destination. -/
def DstOK (n : Nat) (od : Option Tmp) (ad : Option (List Bool)) : Prop :=
  match ad with
  | none => od = none
  | some p => ∃ d, od = some d ∧ p = path d ∧ d < n

theorem EnvR.put {T : Tab} {n : Nat} {a : AOper} {x : Value} (h : EnvR w0 ν T env act.tmps) (hn : act.tmps.size = n) (hd : DstOK n o.dst a.dst) (hx : VR w0 ν v x) :
    EnvR w0 ν T (setDst a v env) (act.put o.dst x).tmps ∧ (act.put o.dst x).tmps.size = n := by
  unfold DstOK at hd
  unfold setDst Act.put
  cases had : a.dst with
  | none =>
    rw [had] at hd; simp only at hd
    rw [hd]; exact ⟨h, hn⟩
  | some p =>
    rw [had] at hd; simp only at hd
    obtain ⟨d, hd1, rfl, hlt⟩ := hd
    rw [hd1]
    refine ⟨fun t => ?_, by simpa using hn⟩
    by_cases e : t = d
    · subst e
      have h1 : (Opd.t (path t)).ev T (Tr.set (path t) (some v) env) = v := by simp [Opd.ev, Tr.get_set_same]
      have hlt' : t < act.tmps.size := by rw [hn]; exact hlt
      have h2 : (act.tmps.setIfInBounds t x).getD t undef = x := by
        simp [Array.getD_eq_getD_getElem?, Array.getElem?_setIfInBounds, hlt']
      simp only [h1, h2]; exact hx
    · have h1 : (Opd.t (path t)).ev T (Tr.set (path d) (some v) env) = (Opd.t (path t)).ev T env := by
        simp only [Opd.ev]
        rw [Tr.get_set_other _ _ _ _ (fun e' => e (path_inj e'))]
      have h2 : (act.tmps.setIfInBounds d x).getD t undef = act.tmps.getD t undef := by
        simp [Array.getD_eq_getD_getElem?, Array.getElem?_setIfInBounds, Ne.symm e]
      simp only [h1, h2]; exact h t

theorem okOper_parts {n : Nat} {ops : List Oper} {a : AOper} (h : okOper S n ops o a = true) : okOp S o.op a.op = true ∧ DstOK n o.dst a.dst ∧
    (match a.guard with
    | none => o.guard = none
    | some (p, want) => ∃ j d, o.guard = some (j, want) ∧ (ops[j]?).bind (·.dst) = some d ∧ p = path d ∧ d < n) := by
  simp only [okOper, Bool.and_eq_true] at h
  obtain ⟨⟨h1, h2⟩, h3⟩ := h
  refine ⟨h1, ?_, ?_⟩
  · unfold DstOK
    cases had : a.dst with
    | none =>
      rw [had] at h2; simp only at h2
      cases hod : o.dst with
      | none => rfl
      | some d => rw [hod] at h2; simp at h2
    | some p =>
      rw [had] at h2; simp only at h2
      cases hod : o.dst with
      | none => rw [hod] at h2; simp at h2
      | some d =>
        rw [hod] at h2
        simp only [Bool.and_eq_true, decide_eq_true_eq] at h2
        exact ⟨d, rfl, eqBools_eq h2.1, h2.2⟩
  · cases hag : a.guard with
    | none =>
      rw [hag] at h3; simp only at h3
      cases hog : o.guard with
      | none => rfl
      | some g => rw [hog] at h3; simp at h3
    | some pw =>
      obtain ⟨p, want⟩ := pw
      rw [hag] at h3; simp only at h3
      cases hog : o.guard with
      | none => rw [hog] at h3; simp at h3
      | some g =>
        obtain ⟨j, want'⟩ := g
        rw [hog] at h3
        simp only [Bool.and_eq_true, beq_iff_eq] at h3
        obtain ⟨rfl, h3⟩ := h3
        cases hg : ops[j]? with
        | none => rw [hg] at h3; simp at h3
        | some g =>
          rw [hg] at h3; simp only at h3
          cases hgd : g.dst with
          | none => rw [hgd] at h3; simp at h3
          | some d =>
            rw [hgd] at h3
            simp only [Bool.and_eq_true, decide_eq_true_eq] at h3
            exact ⟨j, d, rfl, by simp [hg, hgd], eqBools_eq h3.1, h3.2⟩

theorem VR_bool_of {a : AVal} {b : Bool} (h : VR w0 ν a (.bool b)) : a = .bool b := by
  cases a <;> simp only [VR] at h
  all_goals first
    | (simp at h; subst h; rfl)
    | (simp at h; done)

theorem wanted_eq {n : Nat} {ops : Array Oper} {a : AOper} (henv : EnvR w0 ν S.tab env act.tmps) (hn : act.tmps.size = n)
    (h : match a.guard with | none => o.guard = none | some (p, want) => ∃ j d, o.guard = some (j, want) ∧ (ops.toList[j]?).bind (·.dst) = some d ∧ p = path d ∧ d < n) :
    Region.wanted o (yielded ops act.tmps) = wantedA a env := by
  unfold Region.wanted wantedA
  cases hag : a.guard with
  | none => rw [hag] at h; simp only at h; rw [h]
  | some pw =>
    obtain ⟨p, want⟩ := pw
    rw [hag] at h; simp only at h
    obtain ⟨j, d, hog, hd, rfl, hlt⟩ := h
    rw [hog]
    simp only
    have hv := henv d
    have hget : act.tmps[d]? = some (act.tmps.getD d undef) := by
      have : d < act.tmps.size := by rw [hn]; exact hlt
      simp [Array.getD, this]
    have hy : yielded ops act.tmps j = (match act.tmps.getD d undef with | .bool b => some b | _ => none) := by
      unfold yielded
      have : (ops[j]?).bind (·.dst) = some d := by simpa using hd
      rw [this]
      simp only [Option.bind_some, hget]
      cases act.tmps.getD d undef <;> rfl
    rw [hy]
    simp only [Opd.ev] at hv
    cases hg : env.get (path d) with
    | none =>
      rw [hg] at hv
      have : act.tmps.getD d undef = undef := by
        simp only [undefA, VR] at hv
        obtain ⟨xs, e, hxs⟩ := hv
        simp only [VRs] at hxs; subst hxs; exact e
      rw [this]; rfl
    | some u =>
      rw [hg] at hv
      simp only at hv ⊢
      cases u with
      | bool b =>
        simp only [VR] at hv
        rw [hv]
        cases b <;> cases want <;> rfl
      | _ =>
        cases hx : act.tmps.getD d undef with
        | bool b => rw [hx] at hv; have := VR_bool_of hv; simp at this
        | _ => rfl

/-- One operation's rule. -/
theorem wp_opG {next : Act → World → Prop} {Q : Exit → Act → World → Prop} (h : OpG P w0 ν σ' v (execOp act.eval o) w)
    (hk : ∀ ν' x w', ν <+: ν' → VR w0 ν' v x → Rel w0 ν' σ' w' → next (act.put o.dst x) w') : o.wp P act w next Q := by
  unfold Oper.wp
  rcases h with ⟨ν', x, w', h1, h2, h3, h4 | ⟨h4, h5⟩⟩ | ⟨f, xs, h1, h2⟩
  · rw [h4]; exact hk ν' x w' h1 h2 h3
  · rw [h4]; subst h5; exact hk ν' undef w' h1 h2 h3
  · rw [h1]
    show Calls P f xs w _
    refine h2.mono ?_
    rintro e w' ⟨ν', x, g1, rfl, g3, g4⟩
    exact hk ν' x w' g1 g3 g4

/-- Straight code, in the text's order. -/
theorem wp_runOps (hB : Base P S w0) (hcf : CFok P w0 cf) {n : Nat} {ops : Array Oper} {Q : Exit → Act → World → Prop} : ∀ (rest : List Nat) (os : List Oper) (as : List AOper) (env : Env) (σ : St) (ν : List Place) (act : Act) (w : World) (r : Env × St),
    (∀ (k : Nat) (o : Oper), os[k]? = some o → ∃ i : Nat, rest[k]? = some i ∧ ops[i]? = some o) → rest.length = os.length → okOpers S n ops.toList os as = true → runOps S.tab cf q as env σ = some r →
    EnvR w0 ν S.tab env act.tmps → act.tmps.size = n → Rel w0 ν σ w →
    (∀ ν' act' w', ν <+: ν' → EnvR w0 ν' S.tab r.1 act'.tmps → act'.tmps.size = n → act'.defers = act.defers → Rel w0 ν' r.2 w' → Q .normal act' w') → wpOps P ops Q rest act w
  | [], [], as, env, σ, ν, act, w, r, _, _, hok, h, henv, hn, hrel, hk => by
    cases as with
    | nil =>
      have : r = (env, σ) := by
        have h' : runOps S.tab cf q [] env σ = some (env, σ) := rfl
        rw [h'] at h; exact (Option.some.inj h).symm
      subst this
      exact hk ν act w (List.prefix_refl _) henv hn rfl hrel
    | cons _ _ => simp [okOpers] at hok
  | [], _ :: _, _, _, _, _, _, _, _, _, hl, _, _, _, _, _, _ => by simp at hl
  | _ :: _, [], _, _, _, _, _, _, _, _, hl, _, _, _, _, _, _ => by simp at hl
  | i :: rest, o :: os, as, env, σ, ν, act, w, r, hmap, hl, hok, h, henv, hn, hrel, hk => by
    cases as with
    | nil => simp [okOpers] at hok
    | cons a as =>
      simp only [okOpers, Bool.and_eq_true] at hok
      obtain ⟨hokO, hokR⟩ := hok
      obtain ⟨hop, hdst, hguard⟩ := okOper_parts hokO
      have hi : ops[i]? = some o := by
        obtain ⟨i', e1, e2⟩ := hmap 0 o rfl
        simp at e1; subst e1; exact e2
      have hmap' : ∀ (k : Nat) (o' : Oper), os[k]? = some o' → ∃ i : Nat, rest[k]? = some i ∧ ops[i]? = some o' := fun k o' hk' => by
        have := hmap (k + 1) o' (by simpa using hk')
        simpa using this
      have hw := wanted_eq (S := S) henv hn hguard (o := o) (ops := ops)
      have hrun : runOps S.tab cf q (a :: as) env σ = (match wantedA a env with
        | true => (match stepOp S.tab cf q a.op env σ with | some r => setDstK a r.1 env fun env => runOps S.tab cf q as env r.2 | none => none)
        | false => setDstK a undefA env fun env => runOps S.tab cf q as env σ) := rfl
      rw [hrun] at h
      simp only [wpOps, hi]
      rw [hw]
      cases hwa : wantedA a env with
      | true =>
        rw [hwa] at h
        simp only at h
        simp only [if_true]
        split at h
        · rename_i r1 hstep
          rw [setDstK_eq] at h
          left
          refine wp_opG (sim_op hB henv hrel hcf hop (v := r1.1) (σ' := r1.2) hstep) ?_
          intro ν' x w' h1 h2 h3
          obtain ⟨he, hs⟩ := (henv.mono h1).put hn hdst h2
          refine wp_runOps hB hcf rest os as _ _ ν' _ w' r hmap' (by simpa using hl) hokR h he hs h3 ?_
          intro ν2 act2 w2 g1 g2 g3 g4 g5
          exact hk ν2 act2 w2 (h1.trans g1) g2 g3 (by rw [g4]; unfold Act.put; cases o.dst <;> rfl) g5
        · simp at h
      | false =>
        rw [hwa] at h
        simp only at h
        simp only [Bool.false_eq_true, if_false]
        rw [setDstK_eq] at h
        obtain ⟨he, hs⟩ := henv.put hn hdst VR_undef
        refine wp_runOps hB hcf rest os as _ _ ν _ w r hmap' (by simpa using hl) hokR h he hs hrel ?_
        intro ν2 act2 w2 g1 g2 g3 g4 g5
        exact hk ν2 act2 w2 g1 g2 g3 (by rw [g4]; unfold Act.put; cases o.dst <;> rfl) g5
end
end Go.Ab
