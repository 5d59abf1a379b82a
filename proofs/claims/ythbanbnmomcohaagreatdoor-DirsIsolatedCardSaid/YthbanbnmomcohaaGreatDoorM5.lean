/- The abstract machine, part 18: what is left of the operations. -/
import Derived.Test.YthbanbnmomcohaaGreatDoorM4
import GoSem.Extern.Table
set_option linter.all false
set_option linter.unusedSimpArgs false
namespace Go.Ab
open Go Go.RowKit
section
variable {P : Program} {w0 w : World} {ν : List Place} {σ : St}

/-- Which pieces of memory may be seen as which type: each row says so by the machine's own look. -/
def CastsOK (P : Program) (T : Tab) : Prop := ∀ e n i u, inCasts e n i u T.casts = true → liesAt P P.depth e (n / P.cellsOf e) i u 1 = true ∧ P.cellsOf e ≠ 0

theorem sim_toUnsafe (hrel : Rel w0 ν σ w) {s d e : TypeId} {ts td te : TI} (hs : OkTI P s ts) (hts : ts.d = .ptr e) (hd : OkTI P d td) (htd : td.d = .uptr) (he : OkTI P e te) (h0 : te.size ≠ 0) {xv r : AVal} {x : Value} (hx : VR w0 ν xv x) (T : Tab) (env : Env) {xo : Opd} (hxo : xo.ev T env = xv)
    {σ' : St} (h : opToUnsafe T xo env σ = some (r, σ')) : Gives P w0 ν σ' r (Go.convert s d x) w := by
  obtain ⟨e1, h1, hh1⟩ := hs.und
  rw [hts] at hh1
  have := td_ptr hh1; subst this
  obtain ⟨e2, h2, hh2⟩ := hd.und
  rw [htd] at hh2
  have := td_uptr hh2; subst this
  unfold opToUnsafe at h
  rw [hxo] at h
  split at h
  · rename_i b i
    split at h
    · rename_i f eb cs hb
      split at h
      · rename_i hi
        simp at h; obtain ⟨rfl, rfl⟩ := h
        have hx' := hx
        simp only [VR] at hx
        obtain ⟨p, hp, rfl⟩ := hx
        obtain ⟨q, hq, hq0, ho⟩ := hrel.live b _ hb
        rw [hp] at hq; cases hq
        obtain ⟨hcl, c, fr, hc, hce, _⟩ := ho
        rw [lenL_eq] at hi
        have hsh : w.shape? p.block = some (eb, c.size) := by simp [World.shape?, hc]
        have hlt : ¬ (c.size ≤ p.off + i) := by omega
        refine .same hrel hx' ?_
        simp [Go.convert, run_underlying h1, run_underlying h2, Conv.unsafePointer, Conv.seenAt, viewAt, hsh, Go.cellsIn, he.sizeOf, h0, hlt]
      · simp at h
    · simp at h
  · simp at h; obtain ⟨rfl, rfl⟩ := h
    have hx' := hx
    simp only [VR] at hx; subst hx
    refine .same hrel hx' ?_
    simp [Go.convert, run_underlying h1, run_underlying h2, Conv.unsafePointer]
  · simp at h

theorem sim_cast (hrel : Rel w0 ν σ w) (T : Tab) (hC : CastsOK P T) {s d u : TypeId} {ts td tu : TI} (hs : OkTI P s ts) (hts : ts.d = .uptr) (hd : OkTI P d td) (htd : td.d = .ptr u) (hu : OkTI P u tu) (h0 : tu.size ≠ 0) {xv r : AVal} {x : Value} (hx : VR w0 ν xv x) (env : Env) {xo : Opd} (hxo : xo.ev T env = xv)
    {σ' : St} (h : opCast T u xo env σ = some (r, σ')) : Gives P w0 ν σ' r (Go.convert s d x) w := by
  obtain ⟨e1, h1, hh1⟩ := hs.und
  rw [hts] at hh1
  have := td_uptr hh1; subst this
  obtain ⟨e2, h2, hh2⟩ := hd.und
  rw [htd] at hh2
  have := td_ptr hh2; subst this
  unfold opCast at h
  rw [hxo] at h
  split at h
  · rename_i b i
    split at h
    · rename_i eb cs hb
      split at h
      · rename_i hi
        simp at h; obtain ⟨rfl, rfl⟩ := h
        have hx' := hx
        simp only [VR] at hx
        obtain ⟨p, hp, rfl⟩ := hx
        obtain ⟨q, hq, hq0, ho⟩ := hrel.live b _ hb
        rw [hp] at hq; cases hq
        obtain ⟨hcl, c, fr, hc, hce, hfr, hcv, hfix⟩ := ho
        obtain ⟨g1, g2, g3, g4⟩ := hfix rfl
        rw [lenL_eq] at hi
        obtain ⟨hl, _⟩ := hC _ _ _ _ hi
        have hsh : w.shape? p.block = some (eb, cs.length) := by simp [World.shape?, hc, g2]
        have hoff : p.off + i = i := by omega
        refine .same hrel hx' ?_
        rw [hoff]
        simp [Go.convert, run_underlying h1, run_underlying h2, Conv.unsafePointer, Conv.seenAt, viewAt, hsh, hu.sizeOf, h0, variablesAt, hl]
      · simp at h
    · simp at h
  · simp at h; obtain ⟨rfl, rfl⟩ := h
    have hx' := hx
    simp only [VR] at hx; subst hx
    refine .same hrel hx' ?_
    simp [Go.convert, run_underlying h1, run_underlying h2, Conv.unsafePointer]
  · simp at h

theorem sim_len (hrel : Rel w0 ν σ w) {t : TypeId} {ti : TI} (ht : OkTI P t ti) {s : Bool} (hti : (s = false ∧ ∃ e, ti.d = .slice e) ∨ (s = true ∧ ti.d = .str)) {xv r : AVal} {x : Value} (hx : VR w0 ν xv x) (T : Tab) (env : Env) {xo : Opd} (hxo : xo.ev T env = xv) {σ' : St} (h : opLen T s xo env σ = some (r, σ'))
    (ty : TypeId) : Gives P w0 ν σ' r (Builtin.len_ #[t] ty #[x]) w := by
  obtain ⟨d, hd, hdd⟩ := ht.und
  rcases hti with ⟨rfl, e, h1⟩ | ⟨rfl, h1⟩
  · rw [h1] at hdd
    have := td_slice hdd; subst this
    simp only [opLen, hxo] at h
    split at h
    · simp at h; obtain ⟨rfl, rfl⟩ := h
      simp only [VR] at hx; subst hx
      refine .same hrel (x := .int .i64 0) (by simp [VR]) ?_
      simp [Builtin.len_, run_underlying hd, goInt]
    · rename_i b i n s
      simp at h; obtain ⟨rfl, rfl⟩ := h
      simp only [VR] at hx
      obtain ⟨p, a, cap, _, rfl, _⟩ := hx
      refine .same hrel (x := .int .i64 n) (by simp [VR]) ?_
      simp [Builtin.len_, run_underlying hd, goInt]
    · rename_i n cs
      simp at h; obtain ⟨rfl, rfl⟩ := h
      simp only [VR] at hx
      obtain ⟨a0, cap, rfl, _⟩ := hx
      refine .same hrel (x := .int .i64 n) (by simp [VR]) ?_
      simp [Builtin.len_, run_underlying hd, goInt]
    · simp at h
  · rw [h1] at hdd
    have := td_str hdd; subst this
    simp only [opLen, hxo] at h
    split at h
    · rename_i s
      simp at h; obtain ⟨rfl, rfl⟩ := h
      simp only [VR] at hx
      obtain ⟨y, rfl, rfl⟩ := hx
      refine .same hrel (x := .int .i64 y.size) (by simp only [VR]; rw [lenL_eq, bytesOf_length]) ?_
      simp [Builtin.len_, run_underlying hd, goInt]
    · simp at h

theorem sim_lenArr (hrel : Rel w0 ν σ w) {t : TypeId} {ti : TI} (ht : OkTI P t ti) {n : Nat} (hti : (∃ e, ti.d = .arr n e) ∨ ∃ e te a, ti.d = .ptr e ∧ OkTI P e te ∧ te.d = .arr n a) (x : Value) (ty : TypeId) : Gives P w0 ν σ (.int .i64 (Int.ofNat n)) (Builtin.len_ #[t] ty #[x]) w := by
  obtain ⟨d, hd, hdd⟩ := ht.und
  refine .same hrel (x := .int .i64 n) (by simp [VR]) ?_
  rcases hti with ⟨e, h1⟩ | ⟨e, te, a, h1, he, h2⟩
  · rw [h1] at hdd
    have := td_arr hdd; subst this
    simp [Builtin.len_, run_underlying hd, goInt]
  · rw [h1] at hdd
    have := td_ptr hdd; subst this
    obtain ⟨d2, hd2, hdd2⟩ := he.und
    rw [h2] at hdd2
    have := td_arr hdd2; subst this
    simp [Builtin.len_, run_underlying hd, run_underlying hd2, goInt]

/-! ## Functions without a body -/
theorem run_ext_bytes {s : List Nat} {x : Value} (hx : VR w0 ν (.str s) x) : ∃ y : ByteArray, x = .string y ∧ bytesOf y = s ∧ (Extern.Bytes.bytesOf x).run P w = .ok y w := by
  simp only [VR] at hx
  obtain ⟨y, rfl, rfl⟩ := hx
  exact ⟨y, rfl, rfl, rfl⟩

theorem indexByteL_find (c : UInt8) : ∀ (l : List UInt8) (k : Nat), indexByteL c.toNat (l.map (·.toNat)) k = ((List.range l.length).find? fun i => l[i]? == some c).map (k + ·)
  | [], k => by simp [indexByteL]
  | u :: l, k => by
    simp only [List.map_cons, indexByteL, List.length_cons, List.range_succ_eq_map, List.find?_cons, List.getElem?_cons_zero]
    by_cases h : u = c
    · subst h; simp
    · have h1 : ¬ (u.toNat = c.toNat) := fun e => h (UInt8.toNat_inj.1 e)
      rw [if_neg h1, indexByteL_find c l (k + 1)]
      have h2 : (some u == some c) = false := by simp [h]
      rw [h2]
      simp only [List.find?_map, Option.map_map]
      congr 1
      · funext i; simp; omega

theorem ba_get! (y : ByteArray) (i : Nat) : y[i]! = (y.data.toList[i]?).getD 0 := by
  by_cases h : i < y.size
  · have h' : i < y.data.size := h
    rw [getElem!_pos y i h, Array.getElem?_toList, getElem?_pos y.data i h']
    rfl
  · have h' : ¬ i < y.data.size := h
    rw [getElem!_neg y i h]
    rw [List.getElem?_eq_none (by simpa using Nat.le_of_not_lt h')]
    rfl

def extFn : Ext → Array Value → Sem Value
  | .same => Extern.AbiNoEscape.same
  | .indexByte => Extern.BytealgIndexByte.indexByte
  | .compare => Extern.BytealgCompare.compare
  | .index => Extern.BytealgIndex.index

structure ExtOK (P : Program) (f : Nat) (e : Ext) : Prop where
  fn : ∃ fn, P.funcs[f]? = some fn ∧ (fn.name == "runtime.NumGoroutine") = false ∧ fn.body.isNone = true ∧ Extern.findNext fn = none ∧ Extern.find fn = some (extFn e)

def cmpRef (la lb : List UInt8) : Int :=
  match (List.range (min la.length lb.length)).find? fun i => (la[i]?).getD 0 != (lb[i]?).getD 0 with
  | some i => if (la[i]?).getD 0 < (lb[i]?).getD 0 then -1 else 1
  | none => if la.length < lb.length then -1 else if la.length > lb.length then 1 else 0

theorem cmpRef_cons (x y : UInt8) (xs ys : List UInt8) : cmpRef (x :: xs) (y :: ys) = if x = y then cmpRef xs ys else if x < y then -1 else 1 := by
  unfold cmpRef
  have hm : min (x :: xs).length (y :: ys).length = min xs.length ys.length + 1 := by simp
  rw [hm, List.range_succ_eq_map]
  simp only [List.find?_cons, List.getElem?_cons_zero, Option.getD_some]
  by_cases h : x = y
  · subst h
    simp only [bne_self_eq_false, if_true, List.find?_map]
    have hf : ((fun i => (((x :: xs)[i]?).getD 0 != ((x :: ys)[i]?).getD 0)) ∘ Nat.succ) = fun i => ((xs[i]?).getD 0 != (ys[i]?).getD 0) := by
      funext i; simp
    rw [hf]
    cases (List.range (min xs.length ys.length)).find? fun i => ((xs[i]?).getD 0 != (ys[i]?).getD 0) with
    | none => simp
    | some i => simp
  · have hb : (x != y) = true := by simpa using h
    rw [hb]
    simp [h]

theorem cmpRef_eq : ∀ (la lb : List UInt8), cmpRef la lb = (if eqBytes (la.map (·.toNat)) (lb.map (·.toNat)) then 0 else if ltBytes (la.map (·.toNat)) (lb.map (·.toNat)) then -1 else 1)
  | [], [] => by simp [cmpRef, eqBytes_nil]
  | [], y :: ys => by simp [cmpRef, eqBytes_nil_cons, ltBytes]
  | x :: xs, [] => by simp [cmpRef, eqBytes_cons_nil, ltBytes]
  | x :: xs, y :: ys => by
    rw [cmpRef_cons, cmpRef_eq xs ys]
    simp only [List.map_cons, eqBytes_cons, ltBytes]
    by_cases h : x = y
    · subst h
      have h2 : Nat.blt x.toNat x.toNat = false := by
        rw [Bool.eq_false_iff]; intro hh
        have := Nat.le_of_ble_eq_true hh; omega
      simp [h2]
    · have h1 : Nat.beq x.toNat y.toNat = false := by
        rw [Bool.eq_false_iff]; intro hh; exact h (UInt8.toNat_inj.1 (Nat.eq_of_beq_eq_true hh))
      have h3 : (x.toNat == y.toNat) = false := by
        rw [beq_eq_false_iff_ne]; intro hh; exact h (UInt8.toNat_inj.1 hh)
      simp only [h, if_false, h1, Bool.false_and, Bool.false_eq_true, h3, Bool.or_false]
      by_cases hlt : x < y
      · have : Nat.blt x.toNat y.toNat = true := by
          have := UInt8.lt_iff_toNat_lt.1 hlt
          simpa [Nat.blt, Nat.succ_le_iff] using this
        simp [hlt, this]
      · have : Nat.blt x.toNat y.toNat = false := by
          rw [Bool.eq_false_iff]; intro hh
          exact hlt (UInt8.lt_iff_toNat_lt.2 (by simpa [Nat.blt, Nat.succ_le_iff] using hh))
        simp [hlt, this]

theorem cmp_eq (a b : ByteArray) : Extern.BytealgCompare.cmp a b = (if eqBytes (bytesOf a) (bytesOf b) then 0 else if ltBytes (bytesOf a) (bytesOf b) then -1 else 1) := by
  have : Extern.BytealgCompare.cmp a b = cmpRef a.data.toList b.data.toList := by
    unfold Extern.BytealgCompare.cmp cmpRef
    simp only [ba_get!, Array.length_toList]
    rfl
  rw [this, cmpRef_eq]
  rfl

theorem indexByte_def (b c : Value) : Extern.BytealgIndexByte.indexByte #[b, c] = (do
    let b ← Extern.Bytes.bytesOf b
    let c ← Extern.Bytes.asByte c
    match (List.range b.size).find? fun i => b[i]! == c with
    | some i => pure (goInt i)
    | none => pure (goInt (-1))) := rfl
theorem compare_def (a b : Value) : Extern.BytealgCompare.compare #[a, b] = (do pure (goInt (Extern.BytealgCompare.cmp (← Extern.Bytes.bytesOf a) (← Extern.Bytes.bytesOf b)))) := rfl

theorem find_congr {p q : Nat → Bool} : ∀ {l : List Nat}, (∀ i ∈ l, p i = q i) → l.find? p = l.find? q
  | [], _ => rfl
  | i :: l, h => by
    simp only [List.find?_cons]
    rw [h i (List.mem_cons_self ..), find_congr (l := l) fun j hj => h j (List.mem_cons_of_mem _ hj)]

theorem sim_ext (hrel : Rel w0 ν σ w) {e : Ext} {vs : List AVal} {xs : List Value} (hv : VRs w0 ν vs xs) {r : AVal} (h : extRun e vs = some r) : Gives P w0 ν σ r (extFn e xs.toArray) w := by
  unfold extRun at h
  split at h
  · simp at h; subst h
    simp only [VRs] at hv
    obtain ⟨x, _, rfl, hx, rfl⟩ := hv
    exact .same hrel hx rfl
  · rename_i s c
    simp at h; subst h
    simp only [VRs] at hv
    obtain ⟨x, _, rfl, hx, y, _, rfl, hy, rfl⟩ := hv
    simp only [VR] at hx hy; subst hy
    obtain ⟨a, rfl, rfl⟩ := hx
    let u : UInt8 := c.toNat.toUInt8
    have hu : u.toNat = c.toNat % 256 := by simp [u]
    have hfind : indexByteL (c.toNat % 256) (bytesOf a) 0 = (List.range a.size).find? fun i => a[i]! == u := by
      have h1 := indexByteL_find u a.data.toList 0
      rw [hu] at h1
      show indexByteL _ (a.data.toList.map (·.toNat)) 0 = _
      rw [h1]
      have hsz : a.data.toList.length = a.size := by simp
      rw [hsz]
      rw [find_congr (q := fun i => a[i]! == u) (fun i hi => by
        have hi' : i < a.size := by simpa using hi
        have hi2 : i < a.data.toList.length := by simpa using hi'
        rw [ba_get!, List.getElem?_eq_getElem hi2]
        simp)]
      cases (List.range a.size).find? fun i => a[i]! == u <;> simp
    refine .same hrel (x := (match (List.range a.size).find? fun i => a[i]! == u with | some i => goInt i | none => goInt (-1))) ?_ ?_
    · rw [hfind]
      cases (List.range a.size).find? fun i => a[i]! == u <;> simp [optInt, VR, goInt]
    · show Sem.run P (Extern.BytealgIndexByte.indexByte #[.string a, .int .u8 c]) w = _
      rw [indexByte_def]
      simp only [Extern.Bytes.bytesOf, Extern.Bytes.asByte, Sem.run_bind, Sem.run_pure, Result.andThen_ok]
      show Sem.run P (match (List.range a.size).find? fun i => a[i]! == u with | some i => _ | none => _) w = _
      cases (List.range a.size).find? fun i => a[i]! == u <;> rfl
  · rename_i s t
    simp at h; subst h
    simp only [VRs] at hv
    obtain ⟨x, _, rfl, hx, y, _, rfl, hy, rfl⟩ := hv
    simp only [VR] at hx hy
    obtain ⟨a, rfl, rfl⟩ := hx
    obtain ⟨b, rfl, rfl⟩ := hy
    refine .same hrel (x := .int .i64 (Extern.BytealgCompare.cmp a b)) (by simp only [VR]; rw [cmp_eq]) ?_
    show Sem.run P (Extern.BytealgCompare.compare #[.string a, .string b]) w = _
    rw [compare_def]
    simp only [Extern.Bytes.bytesOf, Sem.run_bind, Sem.run_pure, Result.andThen_ok]
    rfl
  · simp at h
end
end Go.Ab

namespace Go.Ab
open Go Go.RowKit

/-- What holds of a program, of the check's tables and of the world in which a run began. -/
structure Base (P : Program) (S : Stat) (w0 : World) : Prop where
  tt : OKS P S
  casts : CastsOK P S.tab
  glob : ∀ g cs, S.tab.glob.get (path g) = some cs → ROs w0 [] g 0 cs
  ext : ∀ f e, extOf S.ext f = some e → ExtOK P f e

def EnvR (w0 : World) (ν : List Place) (T : Tab) (env : Env) (tmps : Array Value) : Prop := ∀ t : Nat, VR w0 ν ((Opd.t (path t)).ev T env) (tmps.getD t undef)

def Back (w0 : World) (ν : List Place) (σ' : St) (v : AVal) (e : Ending) (w' : World) : Prop :=
  ∃ ν' x, ν <+: ν' ∧ e = .returned x ∧ VR w0 ν' v x ∧ Rel w0 ν' σ' w'

/-- A function that may be entered. -/
def Enters (P : Program) (f : Nat) : Prop := ∃ fn, P.funcs[f]? = some fn ∧ (fn.name == "runtime.NumGoroutine") = false ∧ fn.body.isNone = false

def CFok (P : Program) (w0 : World) (cf : CF) : Prop := ∀ q f args σ v σ', cf q f args σ = some (v, σ') → Enters P f ∧ ∀ ν w xs, VRs w0 ν args xs → Rel w0 ν σ w → Calls P f xs.toArray w (Back w0 ν σ' v)

/-- What an operation gives: a value, nothing, or a call. -/
def OpG (P : Program) (w0 : World) (ν : List Place) (σ' : St) (v : AVal) (s : Sem Next) (w : World) : Prop :=
  (∃ ν' x w', ν <+: ν' ∧ VR w0 ν' v x ∧ Rel w0 ν' σ' w' ∧ (s.run P w = .ok (.value x) w' ∨ (s.run P w = .ok .skip w' ∧ x = undef))) ∨
  (∃ f xs, s.run P w = .ok (.enter f xs) w ∧ Calls P f xs w (Back w0 ν σ' v))

section
variable {P : Program} {S : Stat} {w0 w : World} {ν : List Place} {σ σ' : St} {env : Env} {act : Act} {v : AVal}

theorem Gives.value {s : Sem Value} (h : Gives P w0 ν σ' v s w) : OpG P w0 ν σ' v (do pure (.value (← s))) w := by
  obtain ⟨ν', x, w', h1, h2, h3, h4⟩ := h
  exact .inl ⟨ν', x, w', h1, h2, h3, .inl (by simp [h4])⟩

theorem OpG.pure (hrel : Rel w0 ν σ w) {x : Value} (hx : VR w0 ν v x) {s : Sem Next} (hs : s.run P w = .ok (.value x) w) : OpG P w0 ν σ v s w :=
  .inl ⟨ν, x, w, List.prefix_refl _, hx, hrel, .inl hs⟩

theorem opd_sim (hB : Base P S w0) (henv : EnvR w0 ν S.tab env act.tmps) {o : Operand} {x : Opd} (h : okOpd S o x = true) : VR w0 ν (x.ev S.tab env) (act.eval o) := by
  cases x with
  | t p =>
    cases o <;> simp [okOpd] at h
    rename_i t
    have := eqBools_eq h; subst this
    exact henv t
  | g n =>
    cases o <;> simp [okOpd] at h
    rename_i g
    obtain ⟨rfl, hg⟩ := h
    cases hgl : S.tab.glob.get (path g) with
    | none => rw [hgl] at hg; simp at hg
    | some cs =>
      show VR w0 ν (match S.tab.glob.get (path g) with | some cs => .rptr cs | none => undefA) _
      rw [hgl]
      simp only [VR, Act.eval]
      exact ⟨g, 0, rfl, ROs_mono (List.nil_prefix) g 0 cs (hB.glob g cs hgl)⟩
  | c v =>
    cases o with
    | const c =>
      simp only [okOpd] at h
      split at h
      · rename_i a ha
        have := eqA_eq _ _ h; subst this
        exact aval_VR ha
      · simp at h
    | func f =>
      simp only [okOpd] at h
      have := eqA_eq _ _ h; subst this
      simp only [Opd.ev, VR, Act.eval]
      exact ⟨[], [], rfl, by simp [VRs], by simp [VRs]⟩
    | _ => simp [okOpd] at h

theorem opds_sim (hB : Base P S w0) (henv : EnvR w0 ν S.tab env act.tmps) : ∀ {os : List Operand} {xs : List Opd}, okOpds S os xs = true → VRs w0 ν (argsOf (Opd.ev S.tab env) xs) (os.map act.eval)
  | [], [], _ => by simp [argsOf, VRs]
  | [], _ :: _, h => by simp [okOpds] at h
  | _ :: _, [], h => by simp [okOpds] at h
  | o :: os, x :: xs, h => by
    simp only [okOpds, Bool.and_eq_true] at h
    simp only [argsOf, List.map_cons, VRs]
    exact ⟨_, _, rfl, opd_sim hB henv h.1, opds_sim hB henv h.2⟩

theorem opdO_sim (hB : Base P S w0) (henv : EnvR w0 ν S.tab env act.tmps) {o : Option Operand} {x : Option Opd} (h : okOpdO S o x = true) : VRO w0 ν (x.map (·.ev S.tab env)) (o.map act.eval) := by
  cases o <;> cases x <;> simp [okOpdO] at h
  · trivial
  · exact opd_sim hB henv h

theorem parts_sim (hB : Base P S w0) (henv : EnvR w0 ν S.tab env act.tmps) (place : Nat → Option (Nat × Nat)) : ∀ {ps : List (Nat × Operand)} {qs : List (Nat × Nat × Opd)}, okParts S place ps qs = true →
    PartsR w0 ν place (qs.map fun p => (p.1, p.2.1, p.2.2.ev S.tab env)) (ps.map fun p => (p.1, act.eval p.2))
  | [], [], _ => trivial
  | [], _ :: _, h => by simp [okParts] at h
  | _ :: _, [], h => by simp [okParts] at h
  | (i, o) :: ps, (off, size, x) :: qs, h => by
    simp only [okParts, Bool.and_eq_true] at h
    obtain ⟨⟨h1, h2⟩, h3⟩ := h
    refine ⟨?_, opd_sim hB henv h2, parts_sim hB henv place h3⟩
    split at h1
    · rename_i a b hp
      simp only [Bool.and_eq_true, beq_iff_eq] at h1
      rw [hp, h1.1, h1.2]
    · simp at h1

theorem enter_sim {f : Nat} (hf : Enters P f) (xs : Array Value) : (callFunc f xs).run P w = .ok (.enter f xs) w := by
  obtain ⟨fn, hfn, hname, hbody⟩ := hf
  unfold callFunc
  simp only [Sem.run_bind, run_program, Result.andThen_ok, hfn, hname, hbody, Bool.false_eq_true, if_false, Sem.run_pure]

theorem ext_sim (hrel : Rel w0 ν σ w) {f : Nat} {e : Ext} (hf : ExtOK P f e) {vs : List AVal} {xs : List Value} (hv : VRs w0 ν vs xs) (h : extRun e vs = some v) : OpG P w0 ν σ v (callFunc f xs.toArray) w := by
  obtain ⟨fn, hfn, hname, hbody, hnext, hfind⟩ := hf.fn
  obtain ⟨ν', x, w', h1, h2, h3, h4⟩ := sim_ext (P := P) hrel hv h
  refine .inl ⟨ν', x, w', h1, h2, h3, .inl ?_⟩
  unfold callFunc
  simp only [Sem.run_bind, run_program, Result.andThen_ok, hfn, hname, hbody, Bool.false_eq_true, if_false, if_true, run_mark, hnext, hfind, h4, Sem.run_pure, pure_bind]
end
end Go.Ab

namespace Go.Ab
open Go Go.RowKit
section
variable {P : Program} {S : Stat} {w0 w : World} {ν : List Place} {σ σ' : St} {env : Env} {act : Act} {v : AVal} {cf : CF} {q : Bool} {o : Oper}

theorem noagg_arith {op : BinOp} {xv yv r : AVal} (h : arith op xv yv = some r) {x y : Value} (hx : VR w0 ν xv x) (_hy : VR w0 ν yv y) : (∀ cs, x ≠ .agg cs) ∧ ¬ (x = .nilIface ∧ y = .nilIface) := by
  unfold arith at h
  split at h
  · simp only [VR] at hx; subst hx
    exact ⟨fun cs hh => by simp at hh, fun hh => by simp at hh⟩
  · simp at h
theorem noagg_strop {op : BinOp} {xv yv r : AVal} (h : strop op xv yv = some r) {x y : Value} (hx : VR w0 ν xv x) (_hy : VR w0 ν yv y) : (∀ cs, x ≠ .agg cs) ∧ ¬ (x = .nilIface ∧ y = .nilIface) := by
  unfold strop at h
  split at h
  · simp only [VR] at hx
    obtain ⟨_, rfl, _⟩ := hx
    exact ⟨fun cs hh => by simp at hh, fun hh => by simp at hh⟩
  · simp at h

theorem sim_arithO (hB : Base P S w0) (henv : EnvR w0 ν S.tab env act.tmps) (hrel : Rel w0 ν σ w) {op : BinOp} {x y : Opd} (hok : okOp S o.op (.arith op x y) = true) (h : stepOp S.tab cf q (.arith op x y) env σ = some (v, σ')) : OpG P w0 ν σ' v (execOp act.eval o) w := by
  simp only [okOp] at hok
  split at hok
  · rename_i op' t x' y' t2 hop
    simp only [Bool.and_eq_true, decide_eq_true_eq] at hok
    obtain ⟨⟨rfl, h1⟩, h2⟩ := hok
    have hx := opd_sim hB henv h1
    have hy := opd_sim hB henv h2
    simp only [stepOp, opArith] at h
    split at h
    · rename_i r hr
      simp only [Option.some.injEq, Prod.mk.injEq] at h; obtain ⟨rfl, rfl⟩ := h
      obtain ⟨z, hz, hvz⟩ := sim_arith (P := P) (w := w) hr hx hy t
      have hg := sim_eqGuard (P := P) (w := w) op' t x' y' (noagg_arith hr hx hy)
      exact .pure hrel hvz (by simp [execOp, hop, hg, hz])
    · simp at h
  · simp at hok

theorem sim_stropO (hB : Base P S w0) (henv : EnvR w0 ν S.tab env act.tmps) (hrel : Rel w0 ν σ w) {op : BinOp} {x y : Opd} (hok : okOp S o.op (.strop op x y) = true) (h : stepOp S.tab cf q (.strop op x y) env σ = some (v, σ')) : OpG P w0 ν σ' v (execOp act.eval o) w := by
  simp only [okOp] at hok
  split at hok
  · rename_i op' t x' y' t2 hop
    simp only [Bool.and_eq_true, decide_eq_true_eq] at hok
    obtain ⟨⟨rfl, h1⟩, h2⟩ := hok
    have hx := opd_sim hB henv h1
    have hy := opd_sim hB henv h2
    simp only [stepOp, opStrop] at h
    split at h
    · rename_i r hr
      simp only [Option.some.injEq, Prod.mk.injEq] at h; obtain ⟨rfl, rfl⟩ := h
      obtain ⟨z, hz, hvz⟩ := sim_strop (P := P) (w := w) hr hx hy t
      have hg := sim_eqGuard (P := P) (w := w) op' t x' y' (noagg_strop hr hx hy)
      exact .pure hrel hvz (by simp [execOp, hop, hg, hz])
    · simp at h
  · simp at hok

theorem okEq_nocells {t : TypeId} {k : EqK} (h : EqSays P t k) : ∀ ks, k ≠ .cells ks := by
  rintro ks rfl; exact h.elim

theorem binOp_eqV {t : TypeId} {k : EqK} (hs : EqSays P t k) {xv yv : AVal} {b : Bool} (h : eqV k xv yv = some b) {x y : Value} (hx : VR w0 ν xv x) (hy : VR w0 ν yv y) (hrun : (Op.equal t x y).run P w = .ok b w) :
    (Go.binOp .eql t x y).run P w = .ok (.bool b) w ∧ (Go.binOp .neq t x y).run P w = .ok (.bool !b) w := by
  cases k with
  | str => exact hs.elim
  | cells _ => exact hs.elim
  | int =>
    cases xv <;> cases yv <;> simp [eqV] at h
    simp only [VR] at hx hy; subst hx; subst hy
    obtain ⟨rfl, rfl⟩ := h
    constructor
    · simp [Go.binOp, Op.intCmp]
    · simp [Go.binOp, Op.intCmp, bne]
  | bool =>
    cases xv <;> cases yv <;> simp [eqV] at h
    simp only [VR] at hx hy; subst hx; subst hy
    exact ⟨by simp [Go.binOp, hrun], by simp [Go.binOp, hrun]⟩
  | ptr =>
    cases xv <;> cases yv <;> simp [eqV] at h
    all_goals simp only [VR] at hx hy
    · subst hx; subst hy; exact ⟨by simp [Go.binOp, hrun], by simp [Go.binOp, hrun]⟩
    · obtain ⟨p, _, rfl⟩ := hy; subst hx; exact ⟨by simp [Go.binOp, hrun], by simp [Go.binOp, hrun]⟩
    · obtain ⟨r, o, rfl, _⟩ := hy; subst hx; exact ⟨by simp [Go.binOp, hrun], by simp [Go.binOp, hrun]⟩
    · obtain ⟨p, _, rfl⟩ := hx; subst hy; exact ⟨by simp [Go.binOp, hrun], by simp [Go.binOp, hrun]⟩
    · obtain ⟨p, hp, rfl⟩ := hx; obtain ⟨p', hp', rfl⟩ := hy; exact ⟨by simp [Go.binOp, hrun], by simp [Go.binOp, hrun]⟩
    · obtain ⟨r, o, rfl, _⟩ := hx; subst hy; exact ⟨by simp [Go.binOp, hrun], by simp [Go.binOp, hrun]⟩
  | slice =>
    cases xv <;> cases yv <;> simp [eqV] at h
    all_goals simp only [VR] at hx hy
    · subst hx; subst hy; exact ⟨by simp [Go.binOp, hrun], by simp [Go.binOp, hrun]⟩
    · obtain ⟨p, a, cap, _, rfl, _⟩ := hy; subst hx; exact ⟨by simp [Go.binOp, hrun], by simp [Go.binOp, hrun]⟩
    · obtain ⟨a0, cap, rfl, _⟩ := hy; subst hx; exact ⟨by simp [Go.binOp, hrun], by simp [Go.binOp, hrun]⟩
    · obtain ⟨p, a, cap, _, rfl, _⟩ := hx; subst hy; exact ⟨by simp [Go.binOp, hrun], by simp [Go.binOp, hrun]⟩
    · obtain ⟨a0, cap, rfl, _⟩ := hx; subst hy; exact ⟨by simp [Go.binOp, hrun], by simp [Go.binOp, hrun]⟩
  | func =>
    cases xv <;> cases yv <;> simp [eqV] at h
    all_goals simp only [VR] at hx hy
    · obtain ⟨_, _, rfl, _⟩ := hx; subst hy; exact ⟨by simp [Go.binOp, hrun], by simp [Go.binOp, hrun]⟩
    · obtain ⟨_, _, rfl, _⟩ := hy; subst hx; exact ⟨by simp [Go.binOp, hrun], by simp [Go.binOp, hrun]⟩
    · subst hx; subst hy; exact ⟨by simp [Go.binOp, hrun], by simp [Go.binOp, hrun]⟩
  | iface =>
    cases xv <;> cases yv <;> simp [eqV] at h
    all_goals simp only [VR] at hx hy
    · obtain ⟨_, rfl, _⟩ := hx; subst hy; exact ⟨by simp [Go.binOp, hrun], by simp [Go.binOp, hrun]⟩
    · obtain ⟨_, rfl, _⟩ := hy; subst hx; exact ⟨by simp [Go.binOp, hrun], by simp [Go.binOp, hrun]⟩

theorem sim_eqO (hB : Base P S w0) (henv : EnvR w0 ν S.tab env act.tmps) (hrel : Rel w0 ν σ w) {neg : Bool} {k : EqK} {x y : Opd} (hok : okOp S o.op (.eq neg k x y) = true) (h : stepOp S.tab cf q (.eq neg k x y) env σ = some (v, σ')) : OpG P w0 ν σ' v (execOp act.eval o) w := by
  simp only [okOp] at hok
  split at hok
  · rename_i op' t x' y' t2 hop
    simp only [Bool.and_eq_true, decide_eq_true_eq] at hok
    obtain ⟨⟨⟨hopp, hk⟩, h1⟩, h2⟩ := hok
    have hx := opd_sim hB henv h1
    have hy := opd_sim hB henv h2
    have hs := okEq_says hB.tt hk
    simp only [stepOp, opEq] at h
    split at h
    · rename_i b hb
      simp only [Option.some.injEq, Prod.mk.injEq] at h; obtain ⟨rfl, rfl⟩ := h
      have hrun := sim_eqV (P := P) (w := w) hs hb hx hy
      have hgd := eqV_guard hb (okEq_nocells hs) hx hy
      have hg := sim_eqGuard (P := P) (w := w) op' t x' y' hgd
      have hbin : (Go.binOp op' t (act.eval x') (act.eval y')).run P w = .ok (.bool (if neg then !b else b)) w := by
        obtain ⟨b1, b2⟩ := binOp_eqV hs hb hx hy hrun
        cases neg
        · simp only [Bool.false_eq_true, if_false] at hopp; subst hopp; exact b1
        · simp only [if_true] at hopp; subst hopp; exact b2
      exact .pure hrel (x := .bool (if neg then !b else b)) (by simp only [VR]) (by simp only [execOp, hop, Sem.run_bind, hg, hbin, Result.andThen_ok, Sem.run_pure])
    · simp at h
  · simp at hok

theorem sim_notO (hB : Base P S w0) (henv : EnvR w0 ν S.tab env act.tmps) (hrel : Rel w0 ν σ w) {x : Opd} (hok : okOp S o.op (.not x) = true) (h : stepOp S.tab cf q (.not x) env σ = some (v, σ')) : OpG P w0 ν σ' v (execOp act.eval o) w := by
  simp only [okOp] at hok
  split at hok
  · rename_i t y hop
    have hx := opd_sim hB henv hok
    simp only [stepOp, opNot] at h
    split at h
    · rename_i b hb
      simp only [Option.some.injEq, Prod.mk.injEq] at h; obtain ⟨rfl, rfl⟩ := h
      rw [hb] at hx; simp only [VR] at hx
      exact .pure hrel (x := .bool !b) (by simp [VR]) (by simp [execOp, hop, hx, Op.unary])
    · simp at h
  · simp at hok

theorem sim_negO (hB : Base P S w0) (henv : EnvR w0 ν S.tab env act.tmps) (hrel : Rel w0 ν σ w) {x : Opd} (hok : okOp S o.op (.neg x) = true) (h : stepOp S.tab cf q (.neg x) env σ = some (v, σ')) : OpG P w0 ν σ' v (execOp act.eval o) w := by
  simp only [okOp] at hok
  split at hok
  · rename_i t y hop
    have hx := opd_sim hB henv hok
    simp only [stepOp, opNeg] at h
    split at h
    · rename_i k n hb
      simp only [Option.some.injEq, Prod.mk.injEq] at h; obtain ⟨rfl, rfl⟩ := h
      rw [hb] at hx; simp only [VR] at hx
      exact .pure hrel (x := .int k (k.wrap (0 - n))) (by simp only [VR, wrapI_eq]) (by simp [execOp, hop, hx, Op.unary, Op.intArith])
    · simp at h
  · simp at hok

theorem sim_cplO (hB : Base P S w0) (henv : EnvR w0 ν S.tab env act.tmps) (hrel : Rel w0 ν σ w) {x : Opd} (hok : okOp S o.op (.cpl x) = true) (h : stepOp S.tab cf q (.cpl x) env σ = some (v, σ')) : OpG P w0 ν σ' v (execOp act.eval o) w := by
  simp only [okOp] at hok
  split at hok
  · rename_i t y hop
    have hx := opd_sim hB henv hok
    simp only [stepOp, opCpl] at h
    split at h
    · rename_i k n hb
      rw [hb] at hx; simp only [VR] at hx
      split at h
      · rename_i r hr
        simp only [Option.some.injEq, Prod.mk.injEq] at h; obtain ⟨rfl, rfl⟩ := h
        obtain ⟨z, hz, hvz⟩ := sim_intArith (P := P) (w := w) (w0 := w0) (ν := ν) hr (by simp) 0
        have hz' : (Op.intBits .xor k (if k.signed then -1 else k.max) n).run P w = .ok z w := by
          simpa [Go.binOp] using hz
        exact .pure hrel hvz (by simp [execOp, hop, hx, Op.unary, hz'])
      · simp at h
    · simp at h
  · simp at hok
end
end Go.Ab
