/- The abstract machine, part 11: indexes, fields, strings, numbers. -/
import Derived.Test.YthbanbnmomcohaaGreatDoorA2
import GoSem.Dispatch
namespace Go.Ab
open Go Go.RowKit
section
variable {P : Program} {w0 w : World} {ν : List Place} {σ : St}

theorem sim_fieldAddr (hrel : Rel w0 ν σ w) {t ft : TypeId} {ti tf : TI} {fs : List (Nat × TypeId)} {i off : Nat} (ht : OkTI P t ti) (hti : ti.d = .struct fs) (hf : fs[i]? = some (off, ft)) (htf : OkTI P ft tf) (h0 : tf.size ≠ 0)
    {xv r : AVal} {x : Value} (hx : VR w0 ν xv x) (T : Tab) (env : Env) {xo : Opd} (hxo : xo.ev T env = xv) {σ' : St} (h : opFieldAddr T off xo env σ = some (r, σ')) : Gives P w0 ν σ' r (Instr.fieldAt t x i) w := by
  obtain ⟨d, hd, hdd⟩ := ht.und
  rw [hti] at hdd
  obtain ⟨fa, rfl, hfa⟩ := td_struct hdd
  rw [hfa] at hf
  simp only [List.getElem?_map, Option.map_eq_some_iff] at hf
  obtain ⟨fld, hfld, heq⟩ := hf
  simp only [Prod.mk.injEq] at heq
  obtain ⟨rfl, rfl⟩ := heq
  have hfld' : fa[i]? = some fld := by simpa using hfld
  have hres : ∀ a : Addr, (Instr.fieldAt t (.pointer (some a)) i).run P w = .ok (.pointer (some (a.add fld.offset))) w := by
    intro a
    simp [Instr.fieldAt, run_underlying hd, hfld', Instr.sureAddr, fieldPlace, htf.sizeOf, h0]
  unfold opFieldAddr at h
  rw [hxo] at h
  split at h
  · simp at h; obtain ⟨rfl, rfl⟩ := h
    simp only [VR] at hx
    obtain ⟨p, hp, rfl⟩ := hx
    refine .same hrel ?_ (hres _)
    rw [add_plain]; simp only [VR]; exact ⟨p, hp, by rw [Nat.add_assoc]⟩
  · rename_i cs
    split at h
    · rename_i r' hdr
      simp at h; obtain ⟨rfl, rfl⟩ := h
      obtain ⟨_, rfl⟩ := dropX_eq.1 hdr
      simp only [VR] at hx
      obtain ⟨rb, o, rfl, hro⟩ := hx
      refine .same hrel ?_ (hres _)
      rw [add_plain]; simp only [VR]; exact ⟨rb, _, rfl, ROs_drop hro _⟩
    · simp at h
  · simp at h

theorem sim_field (hrel : Rel w0 ν σ w) {t ft : TypeId} {ti tf : TI} {fs : List (Nat × TypeId)} {i off : Nat} (ht : OkTI P t ti) (hti : ti.d = .struct fs) (hf : fs[i]? = some (off, ft)) (htf : OkTI P ft tf)
    {xv r : AVal} {x : Value} (hx : VR w0 ν xv x) (T : Tab) (env : Env) {xo : Opd} (hxo : xo.ev T env = xv) {σ' : St} (h : opField T off tf.aggN xo env σ = some (r, σ')) : Gives P w0 ν σ' r (Instr.field t x i) w := by
  obtain ⟨d, hd, hdd⟩ := ht.und
  rw [hti] at hdd
  obtain ⟨fa, rfl, hfa⟩ := td_struct hdd
  rw [hfa] at hf
  simp only [List.getElem?_map, Option.map_eq_some_iff] at hf
  obtain ⟨fld, hfld, heq⟩ := hf
  simp only [Prod.mk.injEq] at heq
  obtain ⟨rfl, rfl⟩ := heq
  have hfld' : fa[i]? = some fld := by simpa using hfld
  unfold opField at h
  rw [hxo] at h
  split at h
  · rename_i cs
    split at h
    · rename_i l hdr
      split at h
      · rename_i v hl
        simp at h; obtain ⟨rfl, rfl⟩ := h
        simp only [VR] at hx
        obtain ⟨xs, rfl, hxs⟩ := hx
        obtain ⟨y, hy, hvy⟩ := part_sim (P := P) (w := w) htf hxs hdr hl
        refine .same hrel hvy ?_
        simp [Instr.field, run_underlying hd, hfld', asAgg, hy]
      · simp at h
    · simp at h
  · simp at h

theorem sim_iaSl (hrel : Rel w0 ν σ w) {t e : TypeId} {ti te : TI} (ht : OkTI P t ti) (hti : ti.d = .slice e) (he : OkTI P e te) {xv iv r : AVal} {x i : Value} (hx : VR w0 ν xv x) (hi : VR w0 ν iv i) (T : Tab) (env : Env) {xo io : Opd} (hxo : xo.ev T env = xv) (hio : io.ev T env = iv)
    {σ' : St} (h : opIaSl T te.size xo io env σ = some (r, σ')) : Gives P w0 ν σ' r (Instr.indexAt t x i) w := by
  obtain ⟨d, hd, hdd⟩ := ht.und
  rw [hti] at hdd
  have := td_slice hdd; subst this
  unfold opIaSl at h
  rw [hxo, hio] at h
  have hres : ∀ (a : Addr) (n cap : Nat) (k : IntKind) (j : Int), 0 ≤ j → j < (n : Int) → (Instr.indexAt t (.slice (some a) n cap) (.int k j)).run P w = .ok (.pointer (some (a.add (j.toNat * te.size)))) w := by
    intro a n cap k j h0 h1
    simp [Instr.indexAt, asIntOf, run_underlying hd, h0, h1, he.sizeOf]
  split at h
  · rename_i b j n s' k i'
    split at h
    · rename_i hc
      obtain ⟨hss, h0, h1⟩ := hc
      simp at h; obtain ⟨rfl, rfl⟩ := h
      simp only [VR] at hx hi
      obtain ⟨p, a, cap, hp, rfl, hn, hs0, hext, ha⟩ := hx
      subst hi
      refine .same hrel ?_ (hres _ _ _ _ _ h0 h1)
      rcases ha with ha | rfl
      · omega
      · rw [add_plain]; simp only [VR]; exact ⟨p, hp, by rw [Nat.add_assoc]⟩
    · simp at h
  · rename_i n cs k i'
    split at h
    · rename_i hc
      obtain ⟨h0, h1⟩ := hc
      split at h
      · rename_i r' hdr
        simp at h; obtain ⟨rfl, rfl⟩ := h
        obtain ⟨_, rfl⟩ := dropX_eq.1 hdr
        simp only [VR] at hx hi
        obtain ⟨ad, cap, rfl, hn, hro⟩ := hx
        rcases hro with ⟨hz, -⟩ | ⟨rb, o, rfl, hro⟩
        · exfalso; omega
        subst hi
        refine .same hrel ?_ (hres _ _ _ _ _ h0 h1)
        rw [add_plain]; simp only [VR]; exact ⟨rb, _, rfl, ROs_drop hro _⟩
      · simp at h
    · simp at h
  · simp at h

theorem sim_iaArr (hrel : Rel w0 ν σ w) {t e : TypeId} {ti te : TI} {len : Nat} (ht : OkTI P t ti) (hti : ti.d = .arr len e) (he : OkTI P e te) {xv iv r : AVal} {x i : Value} (hx : VR w0 ν xv x) (hi : VR w0 ν iv i) (T : Tab) (env : Env) {xo io : Opd} (hxo : xo.ev T env = xv) (hio : io.ev T env = iv)
    {σ' : St} (h : opIaArr T len te.size xo io env σ = some (r, σ')) : Gives P w0 ν σ' r (Instr.indexAt t x i) w := by
  obtain ⟨d, hd, hdd⟩ := ht.und
  rw [hti] at hdd
  have := td_arr hdd; subst this
  unfold opIaArr at h
  rw [hxo, hio] at h
  have hres : ∀ (a : Addr) (k : IntKind) (j : Int), 0 ≤ j → j < (len : Int) → (Instr.indexAt t (.pointer (some a)) (.int k j)).run P w = .ok (.pointer (some (a.add (j.toNat * te.size)))) w := by
    intro a k j h0 h1
    simp [Instr.indexAt, asIntOf, run_underlying hd, h0, h1, he.sizeOf, Instr.sureAddr]
  split at h
  · rename_i b j k i'
    split at h
    · rename_i hc
      obtain ⟨h0, h1⟩ := hc
      simp at h; obtain ⟨rfl, rfl⟩ := h
      simp only [VR] at hx hi
      obtain ⟨p, hp, rfl⟩ := hx
      subst hi
      refine .same hrel ?_ (hres _ _ _ h0 h1)
      rw [add_plain]; simp only [VR]; exact ⟨p, hp, by rw [Nat.add_assoc]⟩
    · simp at h
  · rename_i cs k i'
    split at h
    · rename_i hc
      obtain ⟨h0, h1⟩ := hc
      split at h
      · rename_i r' hdr
        simp at h; obtain ⟨rfl, rfl⟩ := h
        obtain ⟨_, rfl⟩ := dropX_eq.1 hdr
        simp only [VR] at hx hi
        obtain ⟨rb, o, rfl, hro⟩ := hx
        subst hi
        refine .same hrel ?_ (hres _ _ _ h0 h1)
        rw [add_plain]; simp only [VR]; exact ⟨rb, _, rfl, ROs_drop hro _⟩
      · simp at h
    · simp at h
  · simp at h

theorem sim_ixArr (hrel : Rel w0 ν σ w) {t e : TypeId} {ti te : TI} {len : Nat} (ht : OkTI P t ti) (hti : ti.d = .arr len e) (he : OkTI P e te) {xv iv r : AVal} {x i : Value} (hx : VR w0 ν xv x) (hi : VR w0 ν iv i) (T : Tab) (env : Env) {xo io : Opd} (hxo : xo.ev T env = xv) (hio : io.ev T env = iv)
    {σ' : St} (h : opIxArr T len te.size te.agg xo io env σ = some (r, σ')) : Gives P w0 ν σ' r (Instr.index t x i) w := by
  obtain ⟨d, hd, hdd⟩ := ht.und
  rw [hti] at hdd
  have := td_arr hdd; subst this
  unfold opIxArr at h
  rw [hxo, hio] at h
  split at h
  · rename_i cs k i'
    split at h
    · rename_i hc
      obtain ⟨h0, h1⟩ := hc
      split at h
      · rename_i l hdr
        split at h
        · rename_i v hl
          simp at h; obtain ⟨rfl, rfl⟩ := h
          simp only [VR] at hx hi
          obtain ⟨xs, rfl, hxs⟩ := hx
          subst hi
          obtain ⟨y, hy, hvy⟩ := part_sim (P := P) (w := w) he hxs hdr hl
          refine .same hrel hvy ?_
          simp [Instr.index, asIntOf, run_underlying hd, h0, h1, he.sizeOf, hy]
        · simp at h
      · simp at h
    · simp at h
  · simp at h

theorem bytesOf_get (y : ByteArray) (j : Nat) : (bytesOf y)[j]? = (y[j]?).map (·.toNat) := by
  simp only [bytesOf, List.getElem?_map]
  congr 1
  by_cases h : j < y.size
  · have h' : j < y.data.size := h
    rw [getElem?_pos y j h]
    simp [ByteArray.getElem_eq_getElem_data]
  · have h' : ¬ j < y.data.size := h
    rw [getElem?_neg y j h]
    simp; exact Nat.le_of_not_lt h'

theorem sim_ixStr (hrel : Rel w0 ν σ w) {t : TypeId} {ti : TI} (ht : OkTI P t ti) (hti : ti.d = .str) {xv iv r : AVal} {x i : Value} (hx : VR w0 ν xv x) (hi : VR w0 ν iv i) (T : Tab) (env : Env) {xo io : Opd} (hxo : xo.ev T env = xv) (hio : io.ev T env = iv)
    {σ' : St} (h : opIxStr T xo io env σ = some (r, σ')) : Gives P w0 ν σ' r (Instr.index t x i) w := by
  obtain ⟨d, hd, hdd⟩ := ht.und
  rw [hti] at hdd
  have := td_str hdd; subst this
  unfold opIxStr at h
  rw [hxo, hio] at h
  split at h
  · rename_i s k i'
    split at h
    · rename_i h0
      split at h
      · rename_i c l hdr
        simp at h; obtain ⟨rfl, rfl⟩ := h
        simp only [VR] at hx hi
        obtain ⟨y, rfl, rfl⟩ := hx
        subst hi
        obtain ⟨_, hdl⟩ := dropX_eq.1 hdr
        have hc : (bytesOf y)[i'.toNat]? = some c := by
          have : ((bytesOf y).drop i'.toNat)[0]? = some c := by rw [← hdl]; rfl
          simpa using this
        rw [bytesOf_get] at hc
        simp only [Option.map_eq_some_iff] at hc
        obtain ⟨u, hu, rfl⟩ := hc
        refine .same hrel (x := .int .u8 u.toNat) (by simp [VR]) ?_
        simp [Instr.index, asIntOf, run_underlying hd, h0, hu]
      · simp at h
    · simp at h
  · simp at h

theorem sim_extract (hrel : Rel w0 ν σ w) {xv r : AVal} {x : Value} (hx : VR w0 ν xv x) {i : Nat} (T : Tab) (env : Env) {xo : Opd} (hxo : xo.ev T env = xv) {σ' : St} (h : opExtract T xo i env σ = some (r, σ')) : Gives P w0 ν σ' r (Instr.extract x i) w := by
  unfold opExtract at h
  rw [hxo] at h
  split at h
  · rename_i vs
    split at h
    · rename_i v l hdr
      simp at h; obtain ⟨rfl, rfl⟩ := h
      simp only [VR] at hx
      obtain ⟨xs, rfl, hxs⟩ := hx
      obtain ⟨_, hdl⟩ := dropX_eq.1 hdr
      have hv : vs[i]? = some v := by
        have : (vs.drop i)[0]? = some v := by rw [← hdl]; rfl
        simpa using this
      obtain ⟨y, hy, hvy⟩ := VRs_get hxs hv
      exact .same hrel hvy (by simp [Instr.extract, hy])
    · simp at h
  · simp at h

/-! ## Numbers -/
theorem wrapI_eq (k : IntKind) (n : Int) : wrapI k n = k.wrap n := by
  have e8 : (2 : Int) ^ 8 = 256 := rfl
  have e16 : (2 : Int) ^ 16 = 65536 := rfl
  have e32 : (2 : Int) ^ 32 = 4294967296 := rfl
  have e64 : (2 : Int) ^ 64 = 18446744073709551616 := rfl
  have e7 : (2 : Int) ^ (8 - 1) = 128 := rfl
  have e15 : (2 : Int) ^ (16 - 1) = 32768 := rfl
  have e31 : (2 : Int) ^ (32 - 1) = 2147483648 := rfl
  have e63 : (2 : Int) ^ (64 - 1) = 9223372036854775808 := rfl
  cases k <;> simp only [wrapI, modI, halfI, IntKind.wrap, IntKind.bits, IntKind.signed, e8, e16, e32, e64, e7, e15, e31, e63, Bool.false_and, Bool.true_and, Bool.false_eq_true, if_false, decide_eq_true_eq, ge_iff_le]
  all_goals first | exact if_neg (by omega) | (split <;> omega)

theorem ltBytes_eq : ∀ (a b : List UInt8), ltBytes (a.map (·.toNat)) (b.map (·.toNat)) = Op.bytesLess a b
  | _, [] => by cases ‹List UInt8› <;> simp [ltBytes, Op.bytesLess]
  | [], _ :: _ => by simp [ltBytes, Op.bytesLess]
  | a :: x, b :: y => by
    simp only [List.map_cons, ltBytes, Op.bytesLess, ltBytes_eq x y]
    congr 1
    · rw [Bool.eq_iff_iff]; simp [Nat.blt, UInt8.lt_iff_toNat_lt, Nat.succ_le_iff]
    · congr 1
      rw [Bool.eq_iff_iff]; simp [← UInt8.toNat_inj]
end
end Go.Ab

/- The abstract machine, part 12: operators, conversions. -/
namespace Go.Ab
open Go Go.RowKit
section
variable {P : Program} {w0 w : World} {ν : List Place} {σ : St}

theorem sim_intArith {op : BinOp} {k : IntKind} {x y : Int} {r : AVal} (h : intArith op k x y = some r) (hns : op ≠ .shl ∧ op ≠ .shr) (t : TypeId) :
    ∃ v, (Go.binOp op t (.int k x) (.int k y)).run P w = .ok v w ∧ VR w0 ν r v := by
  cases op with
  | shl => exact absurd rfl hns.1
  | shr => exact absurd rfl hns.2
  | quo =>
    by_cases h0 : y = 0
    · simp [intArith, h0] at h
    · simp only [intArith, h0, if_false, Option.some.injEq, wrapI_eq] at h; subst h
      exact ⟨.int k (k.wrap (x.tdiv y)), by simp [Go.binOp, Op.intDiv, h0], by simp only [VR]⟩
  | rem =>
    by_cases h0 : y = 0
    · simp [intArith, h0] at h
    · simp only [intArith, h0, if_false, Option.some.injEq] at h; subst h
      exact ⟨.int k (x.tmod y), by simp [Go.binOp, Op.intDiv, h0], by simp only [VR]⟩
  | add => simp only [intArith, Option.some.injEq, wrapI_eq] at h; subst h; exact ⟨_, by simp [Go.binOp, Op.intArith]; rfl, by simp only [VR]⟩
  | sub => simp only [intArith, Option.some.injEq, wrapI_eq] at h; subst h; exact ⟨_, by simp [Go.binOp, Op.intArith]; rfl, by simp only [VR]⟩
  | mul => simp only [intArith, Option.some.injEq, wrapI_eq] at h; subst h; exact ⟨_, by simp [Go.binOp, Op.intArith]; rfl, by simp only [VR]⟩
  | and => simp only [intArith, Option.some.injEq, wrapI_eq] at h; subst h; exact ⟨_, by simp only [Go.binOp, ne_eq, not_true_eq_false, if_false, Op.intBits, Sem.run_pure]; rfl, by simp only [VR]⟩
  | or => simp only [intArith, Option.some.injEq, wrapI_eq] at h; subst h; exact ⟨_, by simp only [Go.binOp, ne_eq, not_true_eq_false, if_false, Op.intBits, Sem.run_pure]; rfl, by simp only [VR]⟩
  | xor => simp only [intArith, Option.some.injEq, wrapI_eq] at h; subst h; exact ⟨_, by simp only [Go.binOp, ne_eq, not_true_eq_false, if_false, Op.intBits, Sem.run_pure]; rfl, by simp only [VR]⟩
  | andNot => simp only [intArith, Option.some.injEq, wrapI_eq] at h; subst h; exact ⟨_, by simp only [Go.binOp, ne_eq, not_true_eq_false, if_false, Op.intBits, Sem.run_pure]; rfl, by simp only [VR]⟩
  | eql => simp only [intArith, Option.some.injEq] at h; subst h; exact ⟨_, by simp only [Go.binOp, ne_eq, not_true_eq_false, if_false, Op.intCmp, Sem.run_pure]; rfl, by simp only [VR]⟩
  | neq => simp only [intArith, Option.some.injEq] at h; subst h; exact ⟨_, by simp only [Go.binOp, ne_eq, not_true_eq_false, if_false, Op.intCmp, Sem.run_pure]; rfl, by simp only [VR]⟩
  | lss => simp only [intArith, Option.some.injEq] at h; subst h; exact ⟨_, by simp only [Go.binOp, ne_eq, not_true_eq_false, if_false, Op.intCmp, Sem.run_pure]; rfl, by simp only [VR]⟩
  | leq => simp only [intArith, Option.some.injEq] at h; subst h; exact ⟨_, by simp only [Go.binOp, ne_eq, not_true_eq_false, if_false, Op.intCmp, Sem.run_pure]; rfl, by simp only [VR]⟩
  | gtr => simp only [intArith, Option.some.injEq] at h; subst h; exact ⟨_, by simp only [Go.binOp, ne_eq, not_true_eq_false, if_false, Op.intCmp, Sem.run_pure]; rfl, by simp only [VR]⟩
  | geq => simp only [intArith, Option.some.injEq] at h; subst h; exact ⟨_, by simp only [Go.binOp, ne_eq, not_true_eq_false, if_false, Op.intCmp, Sem.run_pure]; rfl, by simp only [VR]⟩

theorem sim_arith {op : BinOp} {xv yv r : AVal} (h : arith op xv yv = some r) {x y : Value} (hx : VR w0 ν xv x) (hy : VR w0 ν yv y) (t : TypeId) :
    ∃ v, (Go.binOp op t x y).run P w = .ok v w ∧ VR w0 ν r v := by
  unfold arith at h
  split at h
  · rename_i k a k' b
    simp only [VR] at hx hy
    subst hx; subst hy
    split at h
    · unfold shiftI at h
      split at h
      · simp at h
      · rename_i h0
        simp at h; subst h
        simp only [wrapI_eq]
        exact ⟨_, by simp [Go.binOp, Op.shift, h0]; rfl, by simp only [VR]⟩
    · unfold shiftI at h
      split at h
      · simp at h
      · rename_i h0
        simp at h; subst h
        exact ⟨_, by simp [Go.binOp, Op.shift, h0]; rfl, by simp only [VR]⟩
    · rename_i h1 h2
      split at h
      · rename_i hk; subst hk
        exact sim_intArith h ⟨fun e => h1 e, fun e => h2 e⟩ t
      · simp at h
  · simp at h

theorem bytes_toList (x : ByteArray) : x.toList = x.data.toList := by
  have : ∀ (n i : Nat) (r : List UInt8), n = x.size - i → ByteArray.toList.loop x i r = r.reverse ++ x.data.toList.drop i := by
    intro n
    induction n with
    | zero =>
      intro i r h
      unfold ByteArray.toList.loop
      have hi : x.size ≤ i := by omega
      rw [if_neg (by omega), List.drop_eq_nil_of_le (by simpa using hi)]
      simp
    | succ n ih =>
      intro i r h
      unfold ByteArray.toList.loop
      have hi : i < x.size := by omega
      rw [if_pos hi, ih (i + 1) _ (by omega)]
      have : x.data.toList.drop i = x.get! i :: x.data.toList.drop (i + 1) := by
        have hi' : i < x.data.toList.length := by simpa using hi
        rw [List.drop_eq_getElem_cons hi']
        congr 1
        show x.data.toList[i] = x.data.get!Internal i
        simp [Array.get!Internal_eq_getElem!, hi]
      rw [this]; simp
  exact (this x.size 0 [] rfl).trans (by simp)

theorem map_inj {a b : List UInt8} (h : a.map (·.toNat) = b.map (·.toNat)) : a = b := by
  induction a generalizing b with
  | nil => cases b <;> simp at h; rfl
  | cons x xs ih =>
    cases b with
    | nil => simp at h
    | cons y ys =>
      simp at h
      rw [ih h.2, UInt8.toNat_inj.1 h.1]

theorem eqBytes_beq (a b : ByteArray) : eqBytes (bytesOf a) (bytesOf b) = (a.toList == b.toList) := by
  rw [Bool.eq_iff_iff, eqBytes_eq, beq_iff_eq, bytes_toList, bytes_toList]
  exact ⟨map_inj, fun h => by unfold bytesOf; rw [h]⟩

theorem bytes_append (a b : ByteArray) : bytesOf (a ++ b) = bytesOf a ++ bytesOf b := by simp [bytesOf]

theorem sim_strop {op : BinOp} {xv yv r : AVal} (h : strop op xv yv = some r) {x y : Value} (hx : VR w0 ν xv x) (hy : VR w0 ν yv y) (t : TypeId) :
    ∃ v, (Go.binOp op t x y).run P w = .ok v w ∧ VR w0 ν r v := by
  unfold strop at h
  split at h
  · rename_i s t'
    simp only [VR] at hx hy
    obtain ⟨a, rfl, rfl⟩ := hx
    obtain ⟨b, rfl, rfl⟩ := hy
    have hlt : ltBytes (bytesOf a) (bytesOf b) = Op.bytesLess a.toList b.toList := by
      rw [bytes_toList, bytes_toList]; exact ltBytes_eq _ _
    have heq := eqBytes_beq a b
    have hmx : IntKind.i64.max = 9223372036854775807 := by decide
    cases op with
    | add =>
      simp only at h
      split at h
      · rename_i hc
        simp at h; subst h
        rw [lenL_eq, lenL_eq, bytesOf_length, bytesOf_length] at hc
        refine ⟨.string (a ++ b), ?_, by simp only [VR]; exact ⟨_, rfl, bytes_append a b⟩⟩
        have hno : ¬ (((a.size + b.size : Nat) : Int) > IntKind.i64.max) := by rw [hmx]; omega
        simp only [Go.binOp, Op.stringOp]
        rw [if_neg hno]
        rfl
      · simp at h
    | eql => simp only [Option.some.injEq, heq] at h; subst h; exact ⟨_, rfl, by simp only [VR]⟩
    | neq => simp only [Option.some.injEq, heq] at h; subst h; exact ⟨_, rfl, by simp only [VR]⟩
    | lss => simp only [Option.some.injEq, hlt] at h; subst h; exact ⟨_, rfl, by simp only [VR]⟩
    | leq => simp only [Option.some.injEq, hlt, heq] at h; subst h; exact ⟨_, rfl, by simp only [VR]⟩
    | gtr => simp only [Option.some.injEq, hlt, heq] at h; subst h; exact ⟨_, rfl, by simp only [VR]⟩
    | geq => simp only [Option.some.injEq, hlt] at h; subst h; exact ⟨_, rfl, by simp only [VR]⟩
    | _ => simp at h
  · simp at h

theorem sim_eqGuard (op : BinOp) (t : TypeId) (x y : Operand) {a b : Value} (h : (∀ cs, a ≠ .agg cs) ∧ ¬ (a = .nilIface ∧ b = .nilIface)) : (eqGuard op t x y a b).run P w = .ok () w := by
  unfold eqGuard
  cases op <;> simp
  all_goals
    split
    · exact absurd ⟨rfl, rfl⟩ h.2
    · exact absurd rfl (h.1 _)
    · rfl

theorem noagg_int {v : AVal} {x : Value} (h : VR w0 ν v x) (hv : ∃ k n, v = .int k n) : (∀ cs, x ≠ .agg cs) ∧ ∀ b, ¬ (x = .nilIface ∧ b = Value.nilIface) := by
  obtain ⟨k, n, rfl⟩ := hv
  simp only [VR] at h; subst h
  exact ⟨fun cs h => by simp at h, fun b h => by simp at h⟩
end
end Go.Ab

/- The abstract machine, part 13: equality, conversions, ranges over strings. -/
namespace Go.Ab
open Go Go.RowKit
section
variable {P : Program} {w0 w : World} {ν : List Place} {σ : St}

def OKS (P : Program) (S : Stat) : Prop := ∀ t ti, S.tt.get (path t) = some ti → OkTI P t ti

theorem withTI_elim {S : Stat} (hS : OKS P S) {t : TypeId} {f : TI → Bool} (h : withTI S t f = true) : ∃ ti, OkTI P t ti ∧ f ti = true := by
  unfold withTI at h
  split at h
  · rename_i ti hti; exact ⟨ti, hS t ti hti, h⟩
  · simp at h

def EqSays (P : Program) (t : TypeId) : EqK → Prop
  | .bool => P.underlying t = some .bool
  | .int => ∃ j, P.underlying t = some (.int j)
  | .ptr => ∃ e te, P.underlying t = some (.pointer e) ∧ OkTI P e te ∧ te.size ≠ 0
  | .slice => ∃ e, P.underlying t = some (.slice e)
  | .func => ∃ a b c, P.underlying t = some (.func a b c)
  | .iface => ∃ a, P.underlying t = some (.interface a)
  | _ => False

theorem okEq_says {S : Stat} (hS : OKS P S) {t : TypeId} {k : EqK} (h : okEq S t k = true) : EqSays P t k := by
  obtain ⟨ti, ht, hf⟩ := withTI_elim hS h
  obtain ⟨d, hd, hdd⟩ := ht.und
  cases hti : ti.d <;> cases k <;> simp [hti] at hf
  all_goals rw [hti] at hdd
  · have := td_bool hdd; subst this; exact hd
  · have := td_int hdd; subst this; exact ⟨_, hd⟩
  · have := td_ptr hdd; subst this
    obtain ⟨te, he, h0⟩ := withTI_elim hS hf
    exact ⟨_, te, hd, he, by simpa using h0⟩
  · have := td_slice hdd; subst this; exact ⟨_, hd⟩
  · obtain ⟨_, _, _, rfl⟩ := td_func hdd; exact ⟨_, _, _, hd⟩
  · obtain ⟨_, rfl⟩ := td_iface hdd; exact ⟨_, hd⟩

set_option maxHeartbeats 1000000 in
theorem sim_eqV {t : TypeId} {k : EqK} (hk : EqSays P t k) {xv yv : AVal} {b : Bool} (h : eqV k xv yv = some b) {x y : Value} (hx : VR w0 ν xv x) (hy : VR w0 ν yv y) :
    (Op.equal t x y).run P w = .ok b w := by
  show (Op.equalIn (9999 + 1) t x y).run P w = .ok b w
  generalize 9999 = n
  cases k with
  | str => exact hk.elim
  | cells _ => exact hk.elim
  | bool =>
    have hd : P.underlying t = some .bool := hk
    cases xv <;> cases yv <;> simp [eqV] at h
    simp only [VR] at hx hy; subst hx; subst hy; subst h
    simp [Op.equalIn, run_underlying hd]
  | int =>
    obtain ⟨j, hd⟩ := hk
    cases xv <;> cases yv <;> simp [eqV] at h
    simp only [VR] at hx hy; subst hx; subst hy
    obtain ⟨rfl, rfl⟩ := h
    simp [Op.equalIn, run_underlying hd]
  | ptr =>
    obtain ⟨e, te, hd, he, h0⟩ := hk
    cases xv <;> cases yv <;> simp [eqV] at h
    all_goals simp only [VR] at hx hy
    · subst hx; subst hy; subst h; simp [Op.equalIn, run_underlying hd]
    · obtain ⟨p, _, rfl⟩ := hy; subst hx; subst h; simp [Op.equalIn, run_underlying hd]
    · obtain ⟨r, o, rfl, _⟩ := hy; subst hx; subst h; simp [Op.equalIn, run_underlying hd]
    · obtain ⟨p, _, rfl⟩ := hx; subst hy; subst h; simp [Op.equalIn, run_underlying hd]
    · obtain ⟨p, hp, rfl⟩ := hx
      obtain ⟨p', hp', rfl⟩ := hy
      obtain ⟨rfl, rfl⟩ := h
      rw [hp] at hp'; cases hp'
      rename_i i j
      have hb : ((⟨p.block, p.off + i, none⟩ : Addr) == ⟨p.block, p.off + j, none⟩) = (i == j) := by
        rw [Bool.eq_iff_iff]; simp
      simp [Op.equalIn, run_underlying hd, he.sizeOf, h0, sameAddr, hb]
    · obtain ⟨r, o, rfl, _⟩ := hx; subst hy; subst h; simp [Op.equalIn, run_underlying hd]
  | slice =>
    obtain ⟨e, hd⟩ := hk
    cases xv <;> cases yv <;> simp [eqV] at h
    all_goals simp only [VR] at hx hy
    · subst hx; subst hy; subst h; simp [Op.equalIn, run_underlying hd]
    · obtain ⟨p, a, cap, _, rfl, _⟩ := hy; subst hx; subst h; simp [Op.equalIn, run_underlying hd]
    · obtain ⟨a0, cap, rfl, _⟩ := hy; subst hx; subst h; simp [Op.equalIn, run_underlying hd]
    · obtain ⟨p, a, cap, _, rfl, _⟩ := hx; subst hy; subst h; simp [Op.equalIn, run_underlying hd]
    · obtain ⟨a0, cap, rfl, _⟩ := hx; subst hy; subst h; simp [Op.equalIn, run_underlying hd]
  | func =>
    obtain ⟨_, _, _, hd⟩ := hk
    cases xv <;> cases yv <;> simp [eqV] at h
    all_goals simp only [VR] at hx hy
    · obtain ⟨_, _, rfl, _⟩ := hx; subst hy; subst h; simp [Op.equalIn, run_underlying hd]
    · obtain ⟨_, _, rfl, _⟩ := hy; subst hx; subst h; simp [Op.equalIn, run_underlying hd]
    · subst hx; subst hy; subst h; simp [Op.equalIn, run_underlying hd]
  | iface =>
    obtain ⟨_, hd⟩ := hk
    cases xv <;> cases yv <;> simp [eqV] at h
    all_goals simp only [VR] at hx hy
    · obtain ⟨_, rfl, _⟩ := hx; subst hy; subst h; simp [Op.equalIn, run_underlying hd]
    · obtain ⟨_, rfl, _⟩ := hy; subst hx; subst h; simp [Op.equalIn, run_underlying hd]

theorem VR_noagg {v : AVal} {x : Value} (h : VR w0 ν v x) (hv : ∀ cs, v ≠ .agg cs) : ∀ cs, x ≠ .agg cs := by
  rintro cs rfl
  cases v <;> simp only [VR] at h
  all_goals first
    | (exact absurd rfl (hv _))
    | (simp at h; done)
theorem VR_nili {v : AVal} (h : VR w0 ν v .nilIface) : v = .nili := by
  cases v <;> simp only [VR] at h
  all_goals first
    | rfl
    | (simp at h; done)

/-- The check ahead of '==' lets such values by. -/
theorem eqV_guard {k : EqK} {xv yv : AVal} {b : Bool} (h : eqV k xv yv = some b) (hc : ∀ ks, k ≠ .cells ks) {x y : Value} (hx : VR w0 ν xv x) (hy : VR w0 ν yv y) :
    (∀ cs, x ≠ .agg cs) ∧ ¬ (x = .nilIface ∧ y = .nilIface) := by
  refine ⟨VR_noagg hx ?_, ?_⟩
  · rintro cs rfl
    cases k with
    | cells ks => exact hc ks rfl
    | _ => cases yv <;> simp [eqV] at h
  · rintro ⟨rfl, rfl⟩
    have h1 := VR_nili hx
    have h2 := VR_nili hy
    subst h1; subst h2
    cases k <;> simp [eqV] at h

/-! ## Conversions -/
theorem valid_toNat (c : Nat) : UInt8.toNat (UInt8.ofNat c) = c % 256 := by simp

theorem bytesOf_mk (l : List UInt8) : bytesOf ⟨l.toArray⟩ = l.map (·.toNat) := by simp [bytesOf]

theorem encode_key (c : Nat) (h : c < 0x110000) :
    bytesOf (if c < 0x80 then ⟨#[UInt8.ofNat c]⟩ else if c < 0x800 then ⟨#[UInt8.ofNat (0xC0 + c / 64), UInt8.ofNat (0x80 + c % 64)]⟩
      else if c < 0x10000 then ⟨#[UInt8.ofNat (0xE0 + c / 4096), UInt8.ofNat (0x80 + c / 64 % 64), UInt8.ofNat (0x80 + c % 64)]⟩
      else ⟨#[UInt8.ofNat (0xF0 + c / 262144), UInt8.ofNat (0x80 + c / 4096 % 64), UInt8.ofNat (0x80 + c / 64 % 64), UInt8.ofNat (0x80 + c % 64)]⟩) =
    (if c < 0x80 then [c] else if c < 0x800 then [0xC0 + c / 64, 0x80 + c % 64] else if c < 0x10000 then [0xE0 + c / 4096, 0x80 + c / 64 % 64, 0x80 + c % 64]
      else [0xF0 + c / 262144, 0x80 + c / 4096 % 64, 0x80 + c / 64 % 64, 0x80 + c % 64]) := by
  split
  · simp [bytesOf]; omega
  · split
    · simp [bytesOf]; omega
    · split
      · simp [bytesOf]; omega
      · simp [bytesOf]; omega

theorem encode_eq (r : Int) : bytesOf (Utf8.encode r) = encodeL r := by
  have hc : (if Utf8.valid r then r.toNat else 0xFFFD) < 0x110000 := by
    split
    · rename_i hv
      unfold Utf8.valid at hv
      simp at hv
      omega
    · omega
  exact encode_key _ hc

theorem decode_eq (s : ByteArray) (i : Nat) : Utf8.decode s i = decodeL ((bytesOf s).drop i) := by
  have hat : ∀ k, (s.get! (i + k)).toNat = ((bytesOf s).drop i).getD k 0 := by
    intro k
    rw [List.getD_eq_getElem?_getD, List.getElem?_drop, bytesOf_get]
    by_cases h : i + k < s.size
    · rw [getElem?_pos s (i + k) h]
      simp only [Option.map_some, Option.getD_some]
      congr 1
      show s.data.get!Internal (i + k) = s.data[i + k]
      rw [Array.get!Internal_eq_getElem!]
      exact getElem!_pos s.data (i + k) h
    · rw [getElem?_neg s (i + k) h]
      simp only [Option.map_none, Option.getD_none]
      have : s.get! (i + k) = 0 := by
        show s.data.get!Internal (i + k) = 0
        rw [Array.get!Internal_eq_getElem!]
        exact getElem!_neg s.data (i + k) h
      rw [this]; rfl
  have hlen : ∀ k, (decide (i + k < s.size)) = decide (k < lenL ((bytesOf s).drop i)) := by
    intro k
    rw [lenL_eq, List.length_drop, bytesOf_length]
    rw [decide_eq_decide]; omega
  unfold Utf8.decode decodeL
  simp only [hat, hlen, Utf8.runeError]
end
end Go.Ab

/- The abstract machine, part 14: conversions, ranges over strings, what makes memory. -/
namespace Go.Ab
open Go Go.RowKit
section
variable {P : Program} {w0 w : World} {ν : List Place} {σ : St}

theorem OkTI.cases {t : TypeId} {ti : TI} (h : OkTI P t ti) : ∃ d, P.underlying t = some d := let ⟨d, hd, _⟩ := h.und; ⟨d, hd⟩

theorem sim_toInt (hrel : Rel w0 ν σ w) {s d : TypeId} {ts td : TI} {k : IntKind} (hs : OkTI P s ts) (hd : OkTI P d td) (hk : td.d = .int k) {k' : IntKind} {n : Int} {x : Value} (hx : VR w0 ν (.int k' n) x) :
    Gives P w0 ν σ (.int k (wrapI k n)) (Go.convert s d x) w := by
  obtain ⟨e1, h1, _⟩ := hs.und
  obtain ⟨e2, h2, hh⟩ := hd.und
  rw [hk] at hh
  have := td_int hh; subst this
  simp only [VR] at hx; subst hx
  refine .same hrel (x := .int k (k.wrap n)) (by simp only [VR, wrapI_eq]) ?_
  cases e1 <;> simp [Go.convert, run_underlying h1, run_underlying h2, Conv.intToInt]

theorem sim_intStr (hrel : Rel w0 ν σ w) {s d : TypeId} {ts td : TI} (hs : OkTI P s ts) (hd : OkTI P d td) (hk : td.d = .str) {k' : IntKind} {n : Int} {x : Value} (hx : VR w0 ν (.int k' n) x) :
    Gives P w0 ν σ (.str (encodeL n)) (Go.convert s d x) w := by
  obtain ⟨e1, h1, _⟩ := hs.und
  obtain ⟨e2, h2, hh⟩ := hd.und
  rw [hk] at hh
  have := td_str hh; subst this
  simp only [VR] at hx; subst hx
  refine .same hrel (x := .string (Utf8.encode n)) (by simp only [VR]; exact ⟨_, rfl, encode_eq n⟩) ?_
  cases e1 <;> simp [Go.convert, run_underlying h1, run_underlying h2, Conv.intToString]

/-- A mark one past a block's end. -/
theorem Rel.stamp (hrel : Rel w0 ν σ w) {b : Nat} {e : TypeId} {cs : List AVal} (hb : σ.get b = some (.cells true e cs)) {p : Place} (hp : ν[b]? = some p) :
    Rel w0 ν σ (w.freeze ⟨p.block, cs.length, none⟩ 1) := by
  obtain ⟨q, hq, hq0, ho⟩ := hrel.live b _ hb
  rw [hp] at hq; cases hq
  obtain ⟨hcl, c, fr, hc, hce, hfr, hcv, hfix⟩ := ho
  obtain ⟨h1, h2, h3, h4⟩ := hfix rfl
  have hw : ∀ k, k ≠ p.block → (w.freeze ⟨p.block, cs.length, none⟩ 1).heap[k]? = w.heap[k]? := by
    intro k hk
    simp only [World.freeze]
    simp [Array.getElem?_modify, Ne.symm hk]
  have hb' : (w.freeze ⟨p.block, cs.length, none⟩ 1).heap[p.block]? = some (.cells c e (if fr.1 == fr.2 then (cs.length, cs.length + 1) else (min fr.1 cs.length, max fr.2 (cs.length + 1)))) := by
    simp only [World.freeze]
    simp [Array.getElem?_modify, hc]
  have hbelow : Below w0.heap.size w (w.freeze ⟨p.block, cs.length, none⟩ 1) :=
    ⟨rfl, rfl, rfl, by simp [World.freeze], fun k hk => hw k (by omega)⟩
  have : Rel w0 ν (σ.put b (.cells true e cs)) (w.freeze ⟨p.block, cs.length, none⟩ 1) := by
    refine hrel.put hb hp hbelow hw ⟨hcl, c, _, hb', hce, fun j hj => ?_, hcv, fun _ => ⟨h1, h2, h3, ?_⟩⟩
    · split
      · simp only; omega
      · rename_i hne
        simp only
        have hne' : fr.1 ≠ fr.2 := by simpa using hne
        rcases h4 with h4 | h4
        · exact absurd h4 hne'
        · intro hh; have := hh.1; simp only [Nat.min_def] at this; split at this <;> omega
    · split
      · right; simp only; omega
      · rename_i hne
        have hne' : fr.1 ≠ fr.2 := by simpa using hne
        rcases h4 with h4 | h4
        · exact absurd h4 hne'
        · right; simp only; rw [Nat.min_def]; split <;> omega
  -- the same state
  have hget : (σ.put b (.cells true e cs)).get = σ.get := by
    funext c'
    by_cases e' : c' = b
    · subst e'; rw [St.get_put_same, hb]
    · rw [St.get_put_other _ _ e']
  exact ⟨this.below, this.next, fun c' o h => this.live c' o (by rw [hget]; exact h), fun c1 c2 o1 o2 q q' g1 g2 => this.apart c1 c2 o1 o2 q q' (by rw [hget]; exact g1) (by rw [hget]; exact g2)⟩

theorem sim_stamp (hrel : Rel w0 ν σ w) {s e : TypeId} {ts te : TI} (hs : OkTI P s ts) (hts : ts.d = .slice e) (he : OkTI P e te) (hte : te.d = .int .u8) {b i n sz : Nat} {eb : TypeId} {cs : List AVal}
    (hb : σ.get b = some (.cells true eb cs)) {x : Value} (hx : VR w0 ν (.slice b i (n + 1) sz) x) : Gives P w0 ν σ (.slice b i (n + 1) sz) (Go.convert s s x) w := by
  obtain ⟨e1, h1, hh⟩ := hs.und
  rw [hts] at hh
  have := td_slice hh; subst this
  obtain ⟨e2, h2, hh2⟩ := he.und
  rw [hte] at hh2
  have := td_int hh2; subst this
  have hx' := hx
  simp only [VR] at hx
  obtain ⟨p, a, cap, hp, rfl, hn, hs0, hext, ha⟩ := hx
  have ha' : a = ⟨p.block, p.off + i, none⟩ := by
    rcases ha with ha | ha
    · omega
    · exact ha
  subst ha'
  obtain ⟨q, hq, hq0, ho⟩ := hrel.live b _ hb
  rw [hp] at hq; cases hq
  obtain ⟨hcl, c, fr, hc, hce, hfr, hcv, hfix⟩ := ho
  obtain ⟨g1, g2, g3, g4⟩ := hfix rfl
  refine ⟨ν, _, _, List.prefix_refl _, hx', hrel.stamp hb hp, ?_⟩
  have hsh : w.shape? p.block = some (eb, cs.length) := by simp [World.shape?, hc, g2]
  simp [Go.convert, run_underlying h1, run_underlying h2, markStringish, hsh]

/-! ## Strings into slices and back -/
theorem run_runesFrom (s : ByteArray) : ∀ (bound i : Nat) (acc : Array Value), s.size - i ≤ bound →
    (Conv.runesFrom s bound i acc).toList = acc.toList ++ (Conv.runesFrom s bound i #[]).toList
  | 0, i, acc, _ => by simp [Conv.runesFrom]
  | bound + 1, i, acc, h => by
    unfold Conv.runesFrom
    by_cases hi : i < s.size
    · simp only [hi, if_true]
      have hw : 1 ≤ (Utf8.decode s i).2 := by
        unfold Utf8.decode; simp only; (repeat' split) <;> simp
      rw [run_runesFrom s bound _ _ (by omega)]
      rw [run_runesFrom s bound _ (#[].push _) (by omega)]
      simp
    · simp [hi]

theorem decodeL_pos (l : List Nat) : 1 ≤ (decodeL l).2 := by
  unfold decodeL; simp only; (repeat' split) <;> simp

theorem VRs_runes (s : ByteArray) : ∀ (f i : Nat), s.size - i ≤ f → VRs w0 ν (runesL f ((bytesOf s).drop i)) (Conv.runesFrom s f i #[]).toList
  | 0, i, h => by simp [runesL, Conv.runesFrom, VRs]
  | f + 1, i, h => by
    unfold runesL Conv.runesFrom
    by_cases hi : i < s.size
    · simp only [hi, if_true]
      have hne : (bytesOf s).drop i ≠ [] := by
        intro h0
        have := congrArg List.length h0
        rw [List.length_drop, bytesOf_length] at this
        simp at this; omega
      split
      · rename_i h0; exact absurd h0 hne
      · rename_i h0
        have hw := decodeL_pos ((bytesOf s).drop i)
        rw [decode_eq]
        rw [run_runesFrom s f _ _ (by omega)]
        simp only [Array.toList_push, List.nil_append, List.singleton_append, VRs]
        refine ⟨_, _, rfl, by simp only [VR], ?_⟩
        rw [List.drop_drop]
        exact VRs_runes s f _ (by omega)
    · have h0 : (bytesOf s).drop i = [] := by
        apply List.drop_eq_nil_of_le; rw [bytesOf_length]; omega
      rw [h0]
      simp [hi, VRs]

/-- A row made of a string, with whatever room behind it. -/
theorem Rel.new_spare (hrel : Rel w0 ν σ w) (e : TypeId) (as : List AVal) (vs : List Value) (h : VRs w0 ν as vs) (z : Value) (k : Nat) :
    Rel w0 (ν ++ [⟨w.heap.size, 0, (vs.toArray ++ Array.replicate k z).size⟩]) (σ.new (.cells false e as)) (w.alloc (.cells (vs.toArray ++ Array.replicate k z) e)) := by
  have hl := VRs_length h
  refine hrel.new_row e _ as false (fun j a ha => ?_) (by simp; omega) (by simp)
  obtain ⟨x, hx, hax⟩ := VRs_get h ha
  refine ⟨x, ?_, hax⟩
  have hj : j < vs.length := (List.getElem?_eq_some_iff.1 hx).1
  rw [Array.getElem?_append_left (by simpa using hj)]
  simpa using hx

theorem sim_bytes (hrel : Rel w0 ν σ w) {s d e : TypeId} {ts td te : TI} (hs : OkTI P s ts) (hd : OkTI P d td) (hk : td.d = .slice e) (he : OkTI P e te) (hte : te.d = .int .u8) {l : List Nat} {x : Value} (hx : VR w0 ν (.str l) x) :
    Gives P w0 ν (σ.new (.cells false e (cellsOfBytes l))) (.slice σ.next 0 (lenL l) 1) (Go.convert s d x) w := by
  obtain ⟨e1, h1, _⟩ := hs.und
  obtain ⟨e2, h2, hh⟩ := hd.und
  rw [hk] at hh
  have := td_slice hh; subst this
  obtain ⟨e3, h3, hh3⟩ := he.und
  rw [hte] at hh3
  have := td_int hh3; subst this
  simp only [VR] at hx
  obtain ⟨y, rfl, rfl⟩ := hx
  rw [lenL_eq, bytesOf_length]
  let cap := (Question.appendCap y.size 0 e).cut (w.tape w.drawn (Question.appendCap y.size 0 e))
  have hcap : y.size ≤ cap := by show _ ≤ (Question.appendCap y.size 0 e).cut _; simp [Question.cut]
  let vs : List Value := y.data.toList.map fun b => .int .u8 b.toNat
  have hvs : VRs w0 ν (cellsOfBytes (bytesOf y)) vs := VRs_bytes y
  have hvl : vs.length = y.size := by simp [vs]
  let row : Array Value := vs.toArray ++ Array.replicate (cap - y.size) (.int .u8 0)
  have hrow : row.size = cap := by simp [row, hvl]; omega
  have hnew : Rel w0 (ν ++ [⟨w.heap.size, 0, row.size⟩]) (σ.new (.cells false e (cellsOfBytes (bytesOf y)))) (w.drew.alloc (.cells row e)) := hrel.drew.new_spare e _ vs hvs (.int .u8 0) (cap - y.size)
  have hsz : w.drew.heap.size = w.heap.size := rfl
  have hfz : ∀ W : World, W.heap[w.heap.size]? = some (.cells row e (0, 0)) → (∀ k, k ≠ w.heap.size → (W.freeze ⟨w.heap.size, row.size, none⟩ 1).heap[k]? = W.heap[k]?) ∧ (W.freeze ⟨w.heap.size, row.size, none⟩ 1).heap[w.heap.size]? = some (.cells row e (row.size, row.size + 1)) := by
    intro W hW
    constructor
    · intro k hk; simp [World.freeze, Array.getElem?_modify, Ne.symm hk]
    · simp [World.freeze, Array.getElem?_modify, hW]
  have hW : (w.drew.alloc (.cells row e)).heap[w.heap.size]? = some (.cells row e (0, 0)) := by
    show (w.heap.push _)[w.heap.size]? = _; simp
  obtain ⟨hf1, hf2⟩ := hfz _ hW
  refine ⟨ν ++ [⟨w.heap.size, 0, row.size⟩], .slice (some ⟨w.heap.size, 0, none⟩) y.size cap, (w.drew.alloc (.cells row e)).freeze ⟨w.heap.size, row.size, none⟩ 1, List.prefix_append _ _, ?_, ?_, ?_⟩
  · exact VR_newslice hrel y.size cap 1 row.size hcap (by omega) (by omega)
  · have hb : (σ.new (.cells false e (cellsOfBytes (bytesOf y)))).get σ.next = some (.cells false e (cellsOfBytes (bytesOf y))) := St.get_new_same _ _
    have hp : (ν ++ [(⟨w.heap.size, 0, row.size⟩ : Place)])[σ.next]? = some ⟨w.heap.size, 0, row.size⟩ := new_get hrel _
    have hb0 : w0.heap.size ≤ w.heap.size := hrel.below.size
    have hput := hnew.put hb hp (w' := (w.drew.alloc (.cells row e)).freeze ⟨w.heap.size, row.size, none⟩ 1) (o' := .cells false e (cellsOfBytes (bytesOf y)))
      ⟨rfl, rfl, rfl, by simp [World.freeze], fun k hk => hf1 k (by omega)⟩ hf1 (by
        obtain ⟨q, hq, _, ho⟩ := hnew.live _ _ hb
        rw [hp] at hq; cases hq
        obtain ⟨o1, c, fr, hc, o2, o3, o4, _⟩ := ho
        have hce : c = row ∧ fr = (0, 0) := by
          have hc' : (w.drew.alloc (.cells row e)).heap[w.heap.size]? = some (.cells c e fr) := hc
          rw [hW] at hc'; simp at hc'; exact ⟨hc'.1.symm, hc'.2.symm⟩
        obtain ⟨rfl, rfl⟩ := hce
        exact ⟨o1, row, _, hf2, o2, fun j hj => by simp at hj ⊢; omega, o4, by simp⟩)
    have hget : ((σ.new (.cells false e (cellsOfBytes (bytesOf y)))).put σ.next (.cells false e (cellsOfBytes (bytesOf y)))).get = (σ.new (.cells false e (cellsOfBytes (bytesOf y)))).get := by
      funext c'
      by_cases e' : c' = σ.next
      · subst e'; rw [St.get_put_same, hb]
      · rw [St.get_put_other _ _ e']
    exact ⟨hput.below, hput.next, fun c' o h => hput.live c' o (by rw [hget]; exact h), fun c1 c2 o1 o2 q q' g1 g2 => hput.apart c1 c2 o1 o2 q q' (by rw [hget]; exact g1) (by rw [hget]; exact g2)⟩
  · have hff : (Question.appendCap y.size 0 e).forced = false := rfl
    have hmap : (y.data.map fun b => Value.int .u8 b.toNat) = vs.toArray := by apply Array.ext'; simp [vs]
    have hsh : (w.drew.alloc (.cells row e)).shape? w.heap.size = some (e, row.size) := by simp only [World.shape?, hW]
    have hcc : Go.convert s d (.string y) = Go.convert s d (.string y) := rfl
    cases e1 <;>
      (simp only [Go.convert, Sem.run_bind, run_underlying h1, run_underlying h2, Result.andThen_ok, run_underlying h3, Conv.stringToBytes, run_choose, hff, Bool.false_eq_true, if_false, newRow, run_newObj, Sem.run_pure, hmap, markStringish, run_shape]
       rw [show ({ w with heap := w.heap.push (.cells (vs.toArray ++ Array.replicate ((Question.appendCap y.size 0 e).cut (w.tape w.drawn (Question.appendCap y.size 0 e)) - y.size) (.int .u8 0)) e), drawn := w.drawn + 1 } : World) = w.drew.alloc (.cells row e) from rfl]
       simp only [hsh, run_freeze, Result.andThen_ok]
       rfl)
end
end Go.Ab
