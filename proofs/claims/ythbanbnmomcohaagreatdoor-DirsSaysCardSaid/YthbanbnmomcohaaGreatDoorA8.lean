/- The abstract machine, part 32: equations for runs over symbolic values. -/
import Derived.Test.YthbanbnmomcohaaGreatDoorA7
namespace Go.Ab
open Go Go.RowKit

/-- What stands in a slot. -/
noncomputable def V (env : Env) (k : Nat) : AVal := match env.get (path k) with | some v => v | none => undefA
noncomputable def U (env : Env) (k : Nat) (v : AVal) : Env := env.set (path k) (some v)

theorem V_U_same (env : Env) (k : Nat) (v : AVal) : V (U env k v) k = v := by
  unfold V U; rw [Tr.get_set_same]
theorem V_U_other (env : Env) {k j : Nat} (v : AVal) (h : ¬ k = j) : V (U env k v) j = V env j := by
  unfold V U; rw [Tr.get_set_other]
  intro e; exact h (path_inj e).symm
theorem V_U (env : Env) (k j : Nat) (v : AVal) : V (U env k v) j = if k = j then v else V env j := by
  by_cases h : k = j
  · subst h; rw [V_U_same, if_pos rfl]
  · rw [V_U_other _ _ h, if_neg h]

theorem ev_t (T : Tab) (env : Env) (k : Nat) : Opd.ev T env (.t (path k)) = V env k := rfl
theorem ev_c (T : Tab) (env : Env) (v : AVal) : Opd.ev T env (.c v) = v := rfl

theorem setDst_some (k : Nat) (op : AOp) (g : Option (List Bool × Bool)) (d : DK) (v : AVal) (env : Env) : setDst ⟨some (path k), op, g, d⟩ v env = U env k v := rfl
theorem setDst_none (op : AOp) (g : Option (List Bool × Bool)) (d : DK) (v : AVal) (env : Env) : setDst ⟨none, op, g, d⟩ v env = env := rfl
theorem wanted_none (d : Option (List Bool)) (op : AOp) (dk : DK) (env : Env) : wantedA ⟨d, op, none, dk⟩ env = true := rfl
theorem wanted_some (d : Option (List Bool)) (op : AOp) (k : Nat) (w : Bool) (dk : DK) (env : Env) : wantedA ⟨d, op, some (path k, w), dk⟩ env = (match V env k with | .bool b => b == w | _ => false) := by
  unfold wantedA V
  simp only
  cases env.get (path k) with
  | none => rfl
  | some v => cases v <;> rfl

section
variable {T : Tab} {q : Bool}
theorem Ew_skip {env σ} : Ew T q .skip env σ = some (.normal, env, σ) := by rw [Ew_eq]; rfl
theorem Ew_seq {a b env σ} : Ew T q (.seq a b) env σ = (match Ew T q a env σ with
    | some (.normal, env, σ) => Ew T q b env σ
    | r => r) := by rw [Ew_eq]; rfl
theorem Ew_region {ops env σ} : Ew T q (.region false ops) env σ = (match runOps T (Cw T) q ops env σ with | some r => some (.normal, r.1, r.2) | none => none) := by rw [Ew_eq]; rfl
theorem Ew_draw {ops env σ} : Ew T q (.region true ops) env σ = (match drawOps T (Cw T) q ops 0 [] [] env σ with | some r => some (.normal, r.1, r.2) | none => none) := by rw [Ew_eq]; rfl
theorem Ew_cond {c a b env σ} : Ew T q (.cond c a b) env σ = (match c.ev T env with | .bool true => Ew T q a env σ | .bool false => Ew T q b env σ | _ => none) := by rw [Ew_eq]; rfl
theorem Ew_block {id a env σ} : Ew T q (.block id a) env σ = (match Ew T q a env σ with
    | some (.exit j, env, σ) => if j = id then some (.normal, env, σ) else some (.exit j, env, σ)
    | r => r) := by rw [Ew_eq]; rfl
theorem Ew_loop {a env σ} : Ew T q (.loop a) env σ = (match Ew T q a env σ with
    | some (.normal, env, σ) => Ew T q (.loop a) env σ
    | r => r) := by rw [Ew_eq]; rfl
theorem Ew_scope {a env σ} : Ew T q (.scope a) env σ = Ew T q a env σ := by rw [Ew_eq]; rfl
theorem Ew_exit {id env σ} : Ew T q (.exit id) env σ = some (.exit id, env, σ) := by rw [Ew_eq]; rfl
theorem Ew_ret {env σ} : Ew T q .ret env σ = some (.ret, env, σ) := by rw [Ew_eq]; rfl
theorem Ew_fail {env σ} : Ew T q .fail env σ = none := by rw [Ew_eq]; rfl
end

theorem eqBytes_refl (a : List Nat) : eqBytes a a = true := eqBytes_eq.2 rfl

mutual
theorem eqA_refl : ∀ v : AVal, eqA v v = true
  | .bool _ | .int _ _ | .nilp | .ptr _ _ | .nils | .slice _ _ _ _ | .nilf | .nili => by simp [eqA]
  | .str s => by simp only [eqA]; exact eqBytes_refl s
  | .agg xs => by simp only [eqA]; exact eqAs_refl xs
  | .tuple xs => by simp only [eqA]; exact eqAs_refl xs
  | .rslice n xs => by simp [eqA, eqAs_refl xs]
  | .rptr xs => by simp only [eqA]; exact eqAs_refl xs
  | .iface t x => by simp [eqA, eqA_refl x]
  | .func f xs ys => by simp [eqA, eqAs_refl xs, eqAs_refl ys]
theorem eqAs_refl : ∀ l : List AVal, eqAs l l = true
  | [] => rfl
  | x :: xs => by simp [eqAs, eqA_refl x, eqAs_refl xs]
end

theorem eqBytes_dec (a b : List Nat) : eqBytes a b = decide (a = b) := by
  by_cases h : a = b
  · subst h; simp [eqBytes_refl]
  · simp only [h, decide_false]
    cases h2 : eqBytes a b with
    | false => rfl
    | true => exact absurd (eqBytes_eq.1 h2) h

/-- What was there stays. -/
structure Fr (σ σ' : St) : Prop where
  next : σ.next ≤ σ'.next
  get : ∀ b, b < σ.next → σ'.get b = σ.get b
theorem Fr.refl (σ : St) : Fr σ σ := ⟨Nat.le_refl _, fun _ _ => rfl⟩
theorem Fr.trans {a b c : St} (h : Fr a b) (h' : Fr b c) : Fr a c :=
  ⟨Nat.le_trans h.next h'.next, fun k hk => by rw [h'.get k (Nat.lt_of_lt_of_le hk h.next), h.get k hk]⟩
theorem Fr.new (σ : St) (o : AObj) : Fr σ (σ.new o) := ⟨Nat.le_succ _, fun _b hb => St.get_new_other _ _ (Nat.ne_of_lt hb)⟩
theorem Fr.put {σ σ' : St} {b : Nat} (h : Fr σ σ') (hb : σ.next ≤ b) (o : AObj) : Fr σ (σ'.put b o) :=
  ⟨h.next, fun k hk => by rw [St.get_put_other _ _ (by omega), h.get k hk]⟩
theorem Fr.kill {σ σ' : St} {b : Nat} (h : Fr σ σ') (hb : σ.next ≤ b) : Fr σ (σ'.kill b) :=
  ⟨h.next, fun k hk => by rw [St.get_kill_other _ (by omega), h.get k hk]⟩
theorem St.new_next (σ : St) (o : AObj) : (σ.new o).next = σ.next + 1 := rfl
theorem St.put_next (σ : St) (b : Nat) (o : AObj) : (σ.put b o).next = σ.next := rfl
theorem St.kill_next (σ : St) (b : Nat) : (σ.kill b).next = σ.next := rfl

/-! Calls. -/
theorem envOf_nil (i : Nat) (e : Env) : envOf [] i e = e := rfl
theorem envOf_cons (v : AVal) (vs : List AVal) (i : Nat) (e : Env) : envOf (v :: vs) i e = envOf vs (i + 1) (U e i v) := rfl

/-- What a body's end gives. -/
noncomputable def fin (T : Tab) (rs : List Res) (r : Option (Out × Env × St)) : Option (AVal × St) :=
  match r with
  | some (.normal, env, σ) => (match resV T env σ rs with | some v => some (v, σ) | none => none)
  | some (.ret, env, σ) => (match resV T env σ rs with | some v => some (v, σ) | none => none)
  | _ => none
theorem fin_normal {T : Tab} {rs : List Res} {env : Env} {σ : St} : fin T rs (some (.normal, env, σ)) = (match resV T env σ rs with | some v => some (v, σ) | none => none) := rfl
theorem fin_ret {T : Tab} {rs : List Res} {env : Env} {σ : St} : fin T rs (some (.ret, env, σ)) = (match resV T env σ rs with | some v => some (v, σ) | none => none) := rfl

theorem Cw_of {T : Tab} {f : Nat} {fn : AFunc} (h : T.fn.get (path f) = some fn) (q : Bool) (args : List AVal) (σ : St) (ha : lenL args = fn.arity) :
    Cw T q f args σ = fin T fn.results (Ew T q fn.body (envOf args 0 .emp) σ) := by
  simp only [Cw, callF, h, if_pos ha]
  unfold fin
  cases Ew T q fn.body (envOf args 0 .emp) σ with
  | none => rfl
  | some r =>
    obtain ⟨o, e, s⟩ := r
    cases o <;> rfl

theorem resOne_t {T : Tab} {env : Env} {σ : St} {k : Nat} : resOne T env σ (.tmp (path k)) = some (V env k) := rfl
theorem resV_1 {T : Tab} {env : Env} {σ : St} {k : Nat} : resV T env σ [.tmp (path k)] = some (V env k) := rfl
theorem resV_2 {T : Tab} {env : Env} {σ : St} {j k : Nat} : resV T env σ [.tmp (path j), .tmp (path k)] = some (.tuple [V env j, V env k]) := rfl
theorem resV_3 {T : Tab} {env : Env} {σ : St} {i j k : Nat} : resV T env σ [.tmp (path i), .tmp (path j), .tmp (path k)] = some (.tuple [V env i, V env j, V env k]) := rfl
theorem resV_0 {T : Tab} {env : Env} {σ : St} : resV T env σ [] = some (.tuple []) := rfl

/-! Numbers. -/
theorem wrap_i64 {n : Int} (h0 : -9223372036854775808 ≤ n) (h1 : n < 9223372036854775808) : wrapI .i64 n = n := by
  unfold wrapI modI halfI; simp only; split <;> omega
theorem wrap_u8 {n : Int} (h0 : 0 ≤ n) (h1 : n < 256) : wrapI .u8 n = n := by
  unfold wrapI modI halfI; simp only; split <;> omega
theorem wrap_i32 {n : Int} (h0 : -2147483648 ≤ n) (h1 : n < 2147483648) : wrapI .i32 n = n := by
  unfold wrapI modI halfI; simp only; split <;> omega
theorem wrap_u64 {n : Int} (h0 : 0 ≤ n) (h1 : n < 18446744073709551616) : wrapI .u64 n = n := by
  unfold wrapI modI halfI; simp only; split <;> omega

theorem ia_add {k x y} : intArith .add k x y = some (.int k (wrapI k (x + y))) := rfl
theorem ia_sub {k x y} : intArith .sub k x y = some (.int k (wrapI k (x - y))) := rfl
theorem ia_mul {k x y} : intArith .mul k x y = some (.int k (wrapI k (x * y))) := rfl
theorem ia_quo {k x y} : intArith .quo k x y = if y = 0 then none else some (.int k (wrapI k (x.tdiv y))) := rfl
theorem ia_rem {k x y} : intArith .rem k x y = if y = 0 then none else some (.int k (x.tmod y)) := rfl
theorem ia_eql {k x y} : intArith .eql k x y = some (.bool (x == y)) := rfl
theorem ia_neq {k x y} : intArith .neq k x y = some (.bool (x != y)) := rfl
theorem ia_lss {k x y} : intArith .lss k x y = some (.bool (decide (x < y))) := rfl
theorem ia_leq {k x y} : intArith .leq k x y = some (.bool (decide (x ≤ y))) := rfl
theorem ia_gtr {k x y} : intArith .gtr k x y = some (.bool (decide (y < x))) := rfl
theorem ia_geq {k x y} : intArith .geq k x y = some (.bool (decide (y ≤ x))) := rfl
theorem int_beq (x y : Int) : (x == y) = decide (x = y) := by by_cases h : x = y <;> simp [h]
theorem int_bne (x y : Int) : (x != y) = !decide (x = y) := by by_cases h : x = y <;> simp [h]

theorem dropX_get {α : Type} {l : List α} {n : Nat} (h : n < l.length) : dropX n l = some (l[n] :: l.drop (n + 1)) := by
  rw [dropX_eq.2 ⟨Nat.le_of_lt h, rfl⟩, List.drop_eq_getElem_cons h]

/-! Regions that draw their order. -/
section
variable {T : Tab} {cf : CF} {q : Bool}
theorem draw_nil {k old fl env σ} : drawOps T cf q [] k old fl env σ = some (env, σ) := rfl
theorem draw_pure {d op g ops k old fl env σ} : drawOps T cf q (⟨d, op, g, .pure⟩ :: ops) k old fl env σ =
    (match wantedA ⟨d, op, g, .pure⟩ env with
      | true => (match stepOp T cf true op env σ with | some r => drawOps T cf q ops k old fl (setDst ⟨d, op, g, .pure⟩ r.1 env) σ | none => none)
      | false => drawOps T cf q ops k old fl (setDst ⟨d, op, g, .pure⟩ undefA env) σ) := by simp only [drawOps, setDstK_eq]; rfl
theorem draw_read {d op g ops k lo hi old fl env σ} : drawOps T cf q (⟨d, op, g, .read lo hi⟩ :: ops) k old fl env σ =
    (match wantedA ⟨d, op, g, .read lo hi⟩ env with
      | true =>
        (match stepOp T cf true op env σ with
        | some r => if staysAll T cf op env r.1 (k - lo) old then drawOps T cf q ops k old (if k < hi then ⟨hi, op, env, r.1⟩ :: fl else fl) (setDst ⟨d, op, g, .read lo hi⟩ r.1 env) σ else none
        | none => none)
      | false => drawOps T cf q ops k old fl (setDst ⟨d, op, g, .read lo hi⟩ undefA env) σ) := by simp only [drawOps, setDstK_eq]; rfl
theorem draw_eff {d op g ops k old fl env σ} : drawOps T cf q (⟨d, op, g, .eff⟩ :: ops) k old fl env σ =
    (match wantedA ⟨d, op, g, .eff⟩ env with
      | true =>
        (match stepOp T cf q op env σ with
        | some r => if fltsStay T cf (k + 1) r.2 fl then drawOps T cf q ops (k + 1) (σ :: old) fl (setDst ⟨d, op, g, .eff⟩ r.1 env) r.2 else none
        | none => none)
      | false => drawOps T cf q ops (k + 1) (σ :: old) fl (setDst ⟨d, op, g, .eff⟩ undefA env) σ) := by simp only [drawOps, setDstK_eq]; rfl
theorem stays_0 {op env v l} : staysAll T cf op env v 0 l = true := by cases l <;> rfl
theorem flts_nil {k σ} : fltsStay T cf k σ [] = true := rfl
end

/-- Where a run of code leads. -/
noncomputable def nx (T : Tab) (q : Bool) (c : ACode) (σ : St) (e : Env) : Env := match Ew T q c e σ with | some r => r.2.1 | none => e
noncomputable def nxS (T : Tab) (q : Bool) (c : ACode) (σ : St) (e : Env) : St := match Ew T q c e σ with | some r => r.2.2 | none => σ
end Go.Ab

/- The abstract machine, part 33: slices, pointers and trees as seen by a run, wherever they lie. -/
noncomputable section
namespace Go.Ab
open Go Go.RowKit

/-! Operations without their surroundings. -/
def lenS (v : AVal) : Option AVal := match v with
  | .nils => some (.int .i64 0)
  | .slice _ _ n _ => some (.int .i64 (Int.ofNat n))
  | .rslice n _ => some (.int .i64 (Int.ofNat n))
  | _ => none
def ixS (s : Nat) (v i : AVal) : Option AVal := match v, i with
  | .slice b j n s', .int _ i => if s = s' ∧ 0 ≤ i ∧ i < (n : Int) then some (.ptr b (j + i.toNat * s)) else none
  | .rslice n cs, .int _ i => if 0 ≤ i ∧ i < (n : Int) then (match dropX (i.toNat * s) cs with | some r => some (.rptr r) | none => none) else none
  | _, _ => none
def fldA (off : Nat) (p : AVal) : Option AVal := match p with
  | .ptr b i => some (.ptr b (i + off))
  | .rptr cs => (match dropX off cs with | some r => some (.rptr r) | none => none)
  | _ => none
def cellsAt (σ : St) (p : AVal) : Option (List AVal) := match p with
  | .ptr b i => (match σ.get b with | some (.cells _ _ cs) => dropX i cs | _ => none)
  | .rptr cs => some cs
  | _ => none
def ldA (σ : St) (agg : Option Nat) (p : AVal) : Option AVal := match cellsAt σ p with
  | some l => loadL agg l
  | none => none
def slS (s : Nat) (v : AVal) (lo hi mx : Option AVal) : Option AVal := match v with
  | .nils => (match boundsL 0 0 lo hi mx with | some _ => some .nils | none => none)
  | .slice b i n s' => if s = s' then (match boundsL n n lo hi mx with | some (l, h) => some (.slice b (i + l * s) (h - l) s) | none => none) else none
  | .rslice n cs => (match boundsL n n lo hi mx with
    | some (l, h) => if l = h then some (.rslice 0 []) else (match dropX (l * s) cs with | some r => some (.rslice (h - l) r) | none => none)
    | none => none)
  | _ => none

section
variable {T : Tab} {env : Env} {σ : St}
theorem opLen_s {x : Opd} : opLen T false x env σ = (match lenS (x.ev T env) with | some v => some (v, σ) | none => none) := by
  unfold opLen lenS; cases x.ev T env <;> rfl
theorem opLen_t {x : Opd} : opLen T true x env σ = (match x.ev T env with | .str s => some (.int .i64 (Int.ofNat (lenL s)), σ) | _ => none) := rfl
theorem opIaSl_s {s : Nat} {x i : Opd} : opIaSl T s x i env σ = (match ixS s (x.ev T env) (i.ev T env) with | some v => some (v, σ) | none => none) := by
  unfold opIaSl ixS
  split
  · rename_i h1 h2; simp only [h1, h2]; split <;> rfl
  · rename_i h1 h2; simp only [h1, h2]
    split
    · split <;> rename_i hd <;> simp only [hd]
    · rfl
  · rename_i h1 h2
    split
    · rename_i h; split at h
      · rename_i h3 h4; exact absurd h4 (by intro h5; exact h1 _ _ _ _ _ _ h3 h5)
      · rename_i h3 h4; exact absurd h4 (by intro h5; exact h2 _ _ _ _ h3 h5)
      · simp at h
    · rfl
theorem opFieldAddr_s {off : Nat} {x : Opd} : opFieldAddr T off x env σ = (match fldA off (x.ev T env) with | some v => some (v, σ) | none => none) := by
  unfold opFieldAddr fldA
  cases x.ev T env <;> try rfl
  rename_i cs; simp only; cases dropX off cs <;> rfl
theorem opLoad_s {agg : Option Nat} {x : Opd} : opLoad T agg x env σ = (match ldA σ agg (x.ev T env) with | some v => some (v, σ) | none => none) := by
  unfold opLoad ldA cellsAt
  cases x.ev T env <;> try rfl
  rename_i b i
  simp only
  cases σ.get b with
  | none => rfl
  | some o =>
    cases o with
    | iter p r => rfl
    | cells f e cs =>
      simp only
      cases dropX i cs with
      | none => rfl
      | some l => rfl
theorem opSlSl_s {s : Nat} {x : Opd} {lo hi mx : Option Opd} : opSlSl T s x lo hi mx env σ = (match slS s (x.ev T env) (lo.map (·.ev T env)) (hi.map (·.ev T env)) (mx.map (·.ev T env)) with | some v => some (v, σ) | none => none) := by
  unfold opSlSl slS
  cases x.ev T env <;> try rfl
  · simp only; generalize boundsL _ _ _ _ _ = o; cases o <;> rfl
  · simp only
    split
    · generalize boundsL _ _ _ _ _ = o; cases o <;> rfl
    · rfl
  · rename_i n cs
    simp only
    generalize boundsL _ _ _ _ _ = o
    cases o with
    | none => rfl
    | some lh =>
      obtain ⟨l, h⟩ := lh
      simp only
      split
      · rfl
      · cases dropX (l * s) cs <;> rfl
end

/-! Slices whose cells are known. -/
/-- The block of a slice is old. -/
def lowV (σ : St) (v : AVal) : Prop := match v with
  | .nils => True
  | .slice b _ _ _ => b < σ.next
  | .rslice _ _ => True
  | _ => False

def SlI (σ : St) (s : Nat) (v : AVal) (n : Nat) (cs : List AVal) : Prop := lowV σ v ∧ cellsIn σ s v = some (n, cs)

theorem lowV.mono {σ σ' : St} {v : AVal} (h : lowV σ v) (hf : σ.next ≤ σ'.next) : lowV σ' v := by
  unfold lowV at h ⊢; split <;> simp_all <;> omega
theorem SlI.fr {σ σ' : St} {s n : Nat} {v : AVal} {cs : List AVal} (h : SlI σ s v n cs) (hf : Fr σ σ') : SlI σ' s v n cs := by
  refine ⟨h.1.mono hf.next, ?_⟩
  rw [← h.2]
  have h1 := h.1
  unfold lowV at h1
  unfold cellsIn
  split at h1
  · rfl
  · rename_i b i n s'; simp only; rw [hf.get _ h1]
  · rfl
  · exact absurd h1 id

theorem SlI.one {σ : St} {s n : Nat} {v : AVal} {cs : List AVal} (h : SlI σ s v n cs) : v.one = true := by
  have h1 := h.1; unfold lowV at h1; split at h1
  · rfl
  · rfl
  · rfl
  · exact absurd h1 id

theorem SlI.len {σ : St} {s n : Nat} {v : AVal} {cs : List AVal} (h : SlI σ s v n cs) : lenS v = some (.int .i64 (n : Int)) := by
  obtain ⟨h1, h2⟩ := h
  unfold lowV at h1
  split at h1
  · simp only [cellsIn] at h2; cases h2; rfl
  · rename_i b i m s'
    simp only [cellsIn] at h2
    split at h2
    · split at h2
      · split at h2
        · cases h2; rfl
        · simp at h2
      · simp at h2
    · simp at h2
  · rename_i m l
    simp only [cellsIn] at h2
    split at h2
    · cases h2; rfl
    · simp at h2
  · exact absurd h1 id

/-- The address of an element. -/
def ixp (s : Nat) (v : AVal) (i : Nat) : AVal := match v with
  | .slice b j _ _ => .ptr b (j + i * s)
  | .rslice _ cs => .rptr (cs.drop (i * s))
  | _ => undefA
def fp (off : Nat) (p : AVal) : AVal := match p with
  | .ptr b i => .ptr b (i + off)
  | .rptr cs => .rptr (cs.drop off)
  | _ => undefA

/-- At an address stand these cells (and maybe others behind). -/
def AtC (σ : St) (p : AVal) (cs : List AVal) : Prop := ∃ l, cellsAt σ p = some l ∧ cs <+: l

theorem SlI.cs_len {σ : St} {s n : Nat} {v : AVal} {cs : List AVal} (h : SlI σ s v n cs) : cs.length = n * s := by
  obtain ⟨h1, h2⟩ := h
  unfold lowV at h1
  split at h1
  · simp only [cellsIn] at h2; cases h2; simp
  · rename_i b i m s'
    simp only [cellsIn] at h2
    split at h2
    · split at h2
      · split at h2
        · rename_i hs; cases h2; obtain ⟨ha, hb⟩ := sub_eq.1 hs; subst hb; simp; omega
        · simp at h2
      · simp at h2
    · simp at h2
  · rename_i m l
    simp only [cellsIn] at h2
    split at h2
    · rename_i ht; cases h2; obtain ⟨ha, hb⟩ := takeX_eq.1 ht; subst hb; simp; omega
    · simp at h2
  · exact absurd h1 id

theorem SlI.ix {σ : St} {s n : Nat} {v : AVal} {cs : List AVal} (h : SlI σ s v n cs) {i : Nat} (hi : i < n) {k : IntKind} : ixS s v (.int k (i : Int)) = some (ixp s v i) ∧ AtC σ (ixp s v i) (cs.drop (i * s)) := by
  have hl := h.cs_len
  have his : i * s ≤ n * s := Nat.mul_le_mul_right s (Nat.le_of_lt hi)
  obtain ⟨h1, h2⟩ := h
  unfold lowV at h1
  split at h1
  · simp only [cellsIn] at h2; cases h2; omega
  · rename_i b j m s'
    simp only [cellsIn] at h2
    split at h2
    · rename_i e; subst e
      split at h2
      · rename_i f e l hg
        split at h2
        · rename_i l' hs
          cases h2
          obtain ⟨ha, hb⟩ := sub_eq.1 hs
          refine ⟨?_, ?_⟩
          · simp only [ixS, ixp, Int.toNat_natCast]
            rw [if_pos ⟨trivial, by omega, by omega⟩]
          · refine ⟨l.drop (j + i * s), ?_, ?_⟩
            · simp only [ixp, cellsAt, hg]
              exact dropX_eq.2 ⟨by omega, rfl⟩
            · subst hb
              rw [List.drop_take, List.drop_drop]
              exact List.take_prefix _ _
        · simp at h2
      · simp at h2
    · simp at h2
  · rename_i m l
    simp only [cellsIn] at h2
    split at h2
    · rename_i l' ht
      cases h2
      obtain ⟨ha, hb⟩ := takeX_eq.1 ht
      refine ⟨?_, ?_⟩
      · simp only [ixS, ixp]
        rw [if_pos ⟨by omega, by omega⟩]
        simp only [Int.toNat_natCast]
        rw [dropX_eq.2 ⟨by omega, rfl⟩]
      · refine ⟨l.drop (i * s), rfl, ?_⟩
        subst hb
        rw [List.drop_take]
        exact List.take_prefix _ _
    · simp at h2
  · exact absurd h1 id

theorem SlI.ix_low {σ : St} {s n : Nat} {v : AVal} {cs : List AVal} (h : SlI σ s v n cs) {i b j : Nat} (hp : ixp s v i = .ptr b j) : b < σ.next := by
  have h1 := h.1
  unfold lowV at h1
  split at h1
  · simp [ixp, undefA] at hp
  · simp only [ixp, AVal.ptr.injEq] at hp; omega
  · simp [ixp] at hp
  · exact absurd h1 id

theorem dropX_1 {α : Type} {a : α} {l : List α} : dropX 1 (a :: l) = some l := rfl
theorem dropX_2 {α : Type} {a b : α} {l : List α} : dropX 2 (a :: b :: l) = some l := rfl
theorem dropX_3 {α : Type} {a b c : α} {l : List α} : dropX 3 (a :: b :: c :: l) = some l := rfl
theorem dropX_4 {α : Type} {a b c d : α} {l : List α} : dropX 4 (a :: b :: c :: d :: l) = some l := rfl
theorem dropX_5 {α : Type} {a b c d e : α} {l : List α} : dropX 5 (a :: b :: c :: d :: e :: l) = some l := rfl

theorem AtC.fld {σ : St} {p : AVal} {cs : List AVal} (h : AtC σ p cs) {off : Nat} (ho : off ≤ cs.length) : fldA off p = some (fp off p) ∧ AtC σ (fp off p) (cs.drop off) := by
  obtain ⟨l, hl, hp⟩ := h
  have hll := hp.length_le
  have hpd : cs.drop off <+: l.drop off := by
    obtain ⟨r, rfl⟩ := hp
    exact ⟨r, (List.drop_append_of_le_length ho).symm⟩
  unfold cellsAt at hl
  split at hl
  · rename_i b i
    split at hl
    · rename_i f e cs' hg
      refine ⟨rfl, l.drop off, ?_, hpd⟩
      simp only [fp, cellsAt, hg]
      obtain ⟨h1, h2⟩ := dropX_eq.1 hl
      subst h2
      rw [List.drop_drop]
      simp only [List.length_drop] at hll
      exact dropX_eq.2 ⟨by omega, rfl⟩
    · simp at hl
  · rename_i cs'
    cases hl
    refine ⟨?_, _, rfl, hpd⟩
    simp only [fldA, fp]
    rw [dropX_eq.2 ⟨by omega, rfl⟩]
  · simp at hl

theorem AtC.ld {σ : St} {p c : AVal} {cs : List AVal} (h : AtC σ p (c :: cs)) : ldA σ none p = some c := by
  obtain ⟨l, hl, hp⟩ := h
  obtain ⟨r, rfl⟩ := hp
  simp only [ldA, hl]; rfl
theorem AtC.lds {σ : St} {p : AVal} {cs : List AVal} (h : AtC σ p cs) {n : Nat} (hn : n ≤ cs.length) : ldA σ (some n) p = some (.agg (cs.take n)) := by
  obtain ⟨l, hl, hp⟩ := h
  obtain ⟨r, rfl⟩ := hp
  simp only [ldA, hl, loadL]
  rw [takeX_eq.2 ⟨by simp; omega, rfl⟩]
  simp only [List.take_append_of_le_length hn]

/-- Numbers. -/
def IntsI (σ : St) (v : AVal) (l : List Int) : Prop := SlI σ 1 v l.length (l.map (AVal.int .i64))
theorem IntsI.fr {σ σ' : St} {v : AVal} {l : List Int} (h : IntsI σ v l) (hf : Fr σ σ') : IntsI σ' v l := SlI.fr h hf
theorem IntsI.get {σ : St} {v : AVal} {l : List Int} (h : IntsI σ v l) {i : Nat} (hi : i < l.length) {k : IntKind} : ixS 1 v (.int k (i : Int)) = some (ixp 1 v i) ∧ ldA σ none (ixp 1 v i) = some (.int .i64 l[i]) := by
  obtain ⟨h1, h2⟩ := SlI.ix h hi (k := k)
  refine ⟨h1, ?_⟩
  have : (l.map (AVal.int .i64)).drop (i * 1) = .int .i64 l[i] :: (l.map (AVal.int .i64)).drop (i + 1) := by
    rw [Nat.mul_one, List.drop_eq_getElem_cons (by simpa using hi)]; simp
  rw [this] at h2
  exact h2.ld

/-- Attributes. -/
abbrev AttrD := List Nat × List Nat
def attrCells (a : AttrD) : List AVal := [.str a.1, .str a.2]
def AttrsI (σ : St) (v : AVal) (l : List AttrD) : Prop := SlI σ 2 v l.length (l.flatMap attrCells)
theorem AttrsI.fr {σ σ' : St} {v : AVal} {l : List AttrD} (h : AttrsI σ v l) (hf : Fr σ σ') : AttrsI σ' v l := SlI.fr h hf

theorem drop_flatMap {α β : Type} {f : α → List β} {s : Nat} (hf : ∀ a, (f a).length = s) : ∀ (l : List α) (i : Nat), (l.flatMap f).drop (i * s) = (l.drop i).flatMap f
  | [], i => by simp
  | a :: l, 0 => by simp
  | a :: l, i + 1 => by
    rw [List.flatMap_cons, List.drop_succ_cons, ← drop_flatMap hf l i, Nat.succ_mul]
    rw [show i * s + s = (f a).length + i * s by rw [hf]; omega]
    exact List.drop_length_add_append _

structure AttrAt (σ : St) (p : AVal) (a : AttrD) : Prop where
  ld : ldA σ (some 2) p = some (.agg [.str a.1, .str a.2])
  f0 : fldA 0 p = some (fp 0 p)
  f1 : fldA 1 p = some (fp 1 p)
  l0 : ldA σ none (fp 0 p) = some (.str a.1)
  l1 : ldA σ none (fp 1 p) = some (.str a.2)

theorem AttrsI.get {σ : St} {v : AVal} {l : List AttrD} (h : AttrsI σ v l) {i : Nat} (hi : i < l.length) {k : IntKind} : ixS 2 v (.int k (i : Int)) = some (ixp 2 v i) ∧ AttrAt σ (ixp 2 v i) l[i] := by
  obtain ⟨h1, h2⟩ := SlI.ix h hi (k := k)
  refine ⟨h1, ?_⟩
  rw [drop_flatMap (f := attrCells) (s := 2) (fun a => rfl), List.drop_eq_getElem_cons hi, List.flatMap_cons] at h2
  have e : attrCells l[i] ++ (l.drop (i + 1)).flatMap attrCells = .str l[i].1 :: .str l[i].2 :: (l.drop (i + 1)).flatMap attrCells := rfl
  rw [e] at h2
  have g0 := h2.fld (off := 0) (by simp)
  have g1 := h2.fld (off := 1) (by simp)
  exact ⟨h2.lds (by simp), g0.1, g1.1, g0.2.ld, g1.2.ld⟩

/-- A node. -/
structure ND where
  kind : Nat
  name : List Nat
  attrs : List AttrD
  data : List Nat
  up : Int
  kids : List Int

/-- A node's cells. -/
def NodeC (σ : St) (n : ND) (av kv : AVal) (cs : List AVal) : Prop :=
  cs = [.int .u8 (n.kind : Int), .str n.name, av, .str n.data, .int .i64 n.up, kv] ∧ AttrsI σ av n.attrs ∧ IntsI σ kv n.kids

inductive NodesC (σ : St) : List ND → List AVal → Prop where
  | nil : NodesC σ [] []
  | cons {n t av kv cs ds} (h : NodeC σ n av kv cs) (ht : NodesC σ t ds) : NodesC σ (n :: t) (cs ++ ds)

def TreeI (σ : St) (v : AVal) (t : List ND) : Prop := ∃ cs, SlI σ 6 v t.length cs ∧ NodesC σ t cs

theorem NodeC.fr {σ σ' : St} {n : ND} {av kv : AVal} {cs : List AVal} (h : NodeC σ n av kv cs) (hf : Fr σ σ') : NodeC σ' n av kv cs := ⟨h.1, h.2.1.fr hf, h.2.2.fr hf⟩
theorem NodesC.fr {σ σ' : St} {t : List ND} {cs : List AVal} (h : NodesC σ t cs) (hf : Fr σ σ') : NodesC σ' t cs := by
  induction h with
  | nil => exact .nil
  | cons h _ ih => exact .cons (h.fr hf) ih
theorem TreeI.fr {σ σ' : St} {v : AVal} {t : List ND} (h : TreeI σ v t) (hf : Fr σ σ') : TreeI σ' v t := by
  obtain ⟨cs, h1, h2⟩ := h
  exact ⟨cs, h1.fr hf, h2.fr hf⟩
theorem TreeI.len {σ : St} {v : AVal} {t : List ND} (h : TreeI σ v t) : lenS v = some (.int .i64 (t.length : Int)) := by
  obtain ⟨cs, h1, _⟩ := h; exact h1.len
theorem TreeI.one {σ : St} {v : AVal} {t : List ND} (h : TreeI σ v t) : v.one = true := by
  obtain ⟨cs, h1, _⟩ := h; exact h1.one

theorem NodesC.drop {σ : St} : ∀ {t : List ND} {cs : List AVal}, NodesC σ t cs → ∀ {i : Nat} (hi : i < t.length), ∃ av kv ds, NodeC σ t[i] av kv ((cs.drop (i * 6)).take 6) ∧ cs.drop (i * 6) = (cs.drop (i * 6)).take 6 ++ ds ∧ NodesC σ (t.drop (i + 1)) ds
  | _, _, .nil, i, hi => by simp at hi
  | _, _, .cons (n := n) (t := t) (av := av) (kv := kv) (cs := cs) (ds := ds) h ht, 0, _ => by
    have hl : cs.length = 6 := by rw [h.1]; rfl
    refine ⟨av, kv, ds, ?_, ?_, ?_⟩
    · simp only [Nat.zero_mul, List.drop_zero]
      rw [← hl, List.take_left']
      · exact h
      · rfl
    · simp only [Nat.zero_mul, List.drop_zero]
      rw [← hl, List.take_left' rfl]
    · simpa using ht
  | _, _, .cons (n := n) (t := t) (av := av) (kv := kv) (cs := cs) (ds := ds) h ht, i + 1, hi => by
    have hl : cs.length = 6 := by rw [h.1]; rfl
    have e : (cs ++ ds).drop ((i + 1) * 6) = ds.drop (i * 6) := by
      rw [Nat.succ_mul, show i * 6 + 6 = cs.length + i * 6 by omega]
      exact List.drop_length_add_append _
    obtain ⟨a, b, c, h1, h2, h3⟩ := NodesC.drop ht (i := i) (by simpa using hi)
    refine ⟨a, b, c, ?_, ?_, ?_⟩
    · rw [e]; exact h1
    · rw [e]; exact h2
    · exact h3

structure NodeAt (σ : St) (p : AVal) (n : ND) (av kv : AVal) : Prop where
  ld : ldA σ (some 6) p = some (.agg [.int .u8 (n.kind : Int), .str n.name, av, .str n.data, .int .i64 n.up, kv])
  f0 : fldA 0 p = some (fp 0 p)
  f1 : fldA 1 p = some (fp 1 p)
  f2 : fldA 2 p = some (fp 2 p)
  f3 : fldA 3 p = some (fp 3 p)
  f4 : fldA 4 p = some (fp 4 p)
  f5 : fldA 5 p = some (fp 5 p)
  l0 : ldA σ none (fp 0 p) = some (.int .u8 (n.kind : Int))
  l1 : ldA σ none (fp 1 p) = some (.str n.name)
  l2 : ldA σ none (fp 2 p) = some av
  l3 : ldA σ none (fp 3 p) = some (.str n.data)
  l4 : ldA σ none (fp 4 p) = some (.int .i64 n.up)
  l5 : ldA σ none (fp 5 p) = some kv
  attrs : AttrsI σ av n.attrs
  kids : IntsI σ kv n.kids

theorem TreeI.get {σ : St} {v : AVal} {t : List ND} (h : TreeI σ v t) {i : Nat} (hi : i < t.length) : ∃ av kv, (∀ k, ixS 6 v (.int k (i : Int)) = some (ixp 6 v i)) ∧ NodeAt σ (ixp 6 v i) t[i] av kv := by
  obtain ⟨cs, h1, h2⟩ := h
  obtain ⟨av, kv, ds, h3, h4, -⟩ := h2.drop hi
  have h6 := (h1.ix hi (k := .i64)).2
  rw [h4, h3.1] at h6
  refine ⟨av, kv, fun k => (h1.ix hi).1, ?_⟩
  have g0 := h6.fld (off := 0) (by simp)
  have g1 := h6.fld (off := 1) (by simp)
  have g2 := h6.fld (off := 2) (by simp)
  have g3 := h6.fld (off := 3) (by simp)
  have g4 := h6.fld (off := 4) (by simp)
  have g5 := h6.fld (off := 5) (by simp)
  exact ⟨h6.lds (by simp), g0.1, g1.1, g2.1, g3.1, g4.1, g5.1, g0.2.ld, g1.2.ld, g2.2.ld, g3.2.ld, g4.2.ld, g5.2.ld, h3.2.1, h3.2.2⟩
end Go.Ab
end

/- The abstract machine, part 34: own memory, strings' ends, arrays, as seen by a run. -/
noncomputable section
namespace Go.Ab
open Go Go.RowKit

def stS (σ : St) (n : Nat) (p v : AVal) : Option St := match p with
  | .ptr b i =>
    (match σ.get b with
    | some (.cells f e cs) =>
      if lenL v.cells = n ∧ allOne v.cells = true then
        match putX i cs v.cells with
        | some cs => some (σ.put b (.cells f e cs))
        | none => none
      else none
    | _ => none)
  | _ => none
theorem opStore_s {T : Tab} {q : Bool} {n : Nat} {x v : Opd} {env : Env} {σ : St} : opStore T q n x v env σ = (if q then none else match stS σ n (x.ev T env) (v.ev T env) with | some σ => some (undefA, σ) | none => none) := by
  unfold opStore stS
  split
  · rfl
  · cases x.ev T env <;> try rfl
    rename_i b i
    simp only
    cases σ.get b with
    | none => rfl
    | some o =>
      cases o with
      | iter p r => rfl
      | cells f e cs =>
        simp only
        split
        · generalize putX i cs _ = o; cases o
          · rfl
          · simp only [St.putK_eq]
        · rfl
theorem stS_ptr {σ : St} {n b i : Nat} {v : AVal} : stS σ n (.ptr b i) v = (match σ.get b with
    | some (.cells f e cs) =>
      if lenL v.cells = n ∧ allOne v.cells = true then
        match putX i cs v.cells with
        | some cs => some (σ.put b (.cells f e cs))
        | none => none
      else none
    | _ => none) := rfl
theorem fldA_ptr {off b i : Nat} : fldA off (.ptr b i) = some (.ptr b (i + off)) := rfl
theorem ldA_ptr {σ : St} {agg : Option Nat} {b i : Nat} : ldA σ agg (.ptr b i) = (match σ.get b with
    | some (.cells _ _ cs) => (match dropX i cs with | some l => loadL agg l | none => none)
    | _ => none) := by
  unfold ldA cellsAt
  simp only
  cases σ.get b with
  | none => rfl
  | some o =>
    cases o with
    | iter p r => rfl
    | cells f e cs => rfl
theorem loadL_none {c : AVal} {l : List AVal} : loadL none (c :: l) = some c := rfl
theorem loadL_2 {a b : AVal} {l : List AVal} : loadL (some 2) (a :: b :: l) = some (.agg [a, b]) := rfl
theorem loadL_3 {a b c : AVal} {l : List AVal} : loadL (some 3) (a :: b :: c :: l) = some (.agg [a, b, c]) := rfl
theorem loadL_6 {a b c d e f : AVal} {l : List AVal} : loadL (some 6) (a :: b :: c :: d :: e :: f :: l) = some (.agg [a, b, c, d, e, f]) := rfl
theorem putX_all6 {a b c d e f a' b' c' d' e' f' : AVal} : putX 0 [a, b, c, d, e, f] [a', b', c', d', e', f'] = some [a', b', c', d', e', f'] := by simp only [putX]
theorem putX_all3 {a b c a' b' c' : AVal} : putX 0 [a, b, c] [a', b', c'] = some [a', b', c'] := by simp only [putX]
theorem putX_all2 {a b a' b' : AVal} : putX 0 [a, b] [a', b'] = some [a', b'] := by simp only [putX]
theorem putX_all1 {a a' : AVal} : putX 0 [a] [a'] = some [a'] := by simp only [putX]
theorem cells_agg {l : List AVal} : AVal.cells (.agg l) = l := rfl
theorem cells_int {k : IntKind} {n : Int} : AVal.cells (.int k n) = [.int k n] := rfl
theorem cells_bool {b : Bool} : AVal.cells (.bool b) = [.bool b] := rfl
theorem cells_str {s : List Nat} : AVal.cells (.str s) = [.str s] := rfl
theorem cells_func {f : FuncId} {a b : List AVal} : AVal.cells (.func f a b) = [.func f a b] := rfl
theorem cells_slice {b i n s : Nat} : AVal.cells (.slice b i n s) = [.slice b i n s] := rfl
theorem cells_one {v : AVal} (h : v.one = true) : AVal.cells v = [v] := by cases v <;> first | rfl | simp [AVal.one] at h
theorem one_int {k : IntKind} {n : Int} : AVal.one (.int k n) = true := rfl
theorem one_bool {b : Bool} : AVal.one (.bool b) = true := rfl
theorem one_str {s : List Nat} : AVal.one (.str s) = true := rfl
theorem one_func {f : FuncId} {a b : List AVal} : AVal.one (.func f a b) = true := rfl
theorem one_slice {b i n s : Nat} : AVal.one (.slice b i n s) = true := rfl

/-- The end of a string, from a place on. -/
def sfrom (v lo : AVal) : Option AVal := match v, lo with
  | .str s, .int _ n => if 0 ≤ n ∧ n ≤ (s.length : Int) then some (.str (s.drop n.toNat)) else none
  | _, _ => none
theorem opSlStr_from {T : Tab} {x lo : Opd} {env : Env} {σ : St} : opSlStr T x (some lo) none env σ = (match sfrom (x.ev T env) (lo.ev T env) with | some v => some (v, σ) | none => none) := by
  unfold opSlStr sfrom
  simp only [Option.map_some, Option.map_none]
  cases x.ev T env <;> try rfl
  rename_i s
  simp only [boundsL, toNo, Option.isSome_none, Bool.false_eq_true, if_false, lenL_eq]
  cases lo.ev T env <;> try rfl
  rename_i k n
  simp only [toN]
  by_cases h : 0 ≤ n ∧ n ≤ (s.length : Int)
  · have h2 : sub s n.toNat (s.length - n.toNat) = some (s.drop n.toNat) := sub_eq.2 ⟨by omega, by rw [List.take_of_length_le]; simp⟩
    simp only [if_pos h, h2]
  · simp only [if_neg h]

def ixA (len s : Nat) (v i : AVal) : Option AVal := match v, i with
  | .ptr b j, .int _ i => if 0 ≤ i ∧ i < (len : Int) then some (.ptr b (j + i.toNat * s)) else none
  | .rptr cs, .int _ i => if 0 ≤ i ∧ i < (len : Int) then (match dropX (i.toNat * s) cs with | some r => some (.rptr r) | none => none) else none
  | _, _ => none
theorem opIaArr_s {T : Tab} {len s : Nat} {x i : Opd} {env : Env} {σ : St} : opIaArr T len s x i env σ = (match ixA len s (x.ev T env) (i.ev T env) with | some v => some (v, σ) | none => none) := by
  unfold opIaArr ixA
  cases x.ev T env <;> try rfl
  · cases i.ev T env <;> try rfl
    simp only; split <;> rfl
  · rename_i cs
    cases i.ev T env <;> try rfl
    rename_i k n
    simp only
    split
    · cases dropX (n.toNat * s) cs <;> rfl
    · rfl

theorem ixA_r {len s : Nat} {cs : List AVal} {n : Nat} {k : IntKind} (h : n < len) (hs : n * s ≤ cs.length) : ixA len s (.rptr cs) (.int k (n : Int)) = some (.rptr (cs.drop (n * s))) := by
  simp only [ixA, Int.toNat_natCast]
  rw [if_pos ⟨by omega, by omega⟩, dropX_eq.2 ⟨hs, rfl⟩]
theorem ldA_r {σ : St} {agg : Option Nat} {cs : List AVal} : ldA σ agg (.rptr cs) = loadL agg cs := rfl
end Go.Ab
end

/- The abstract machine, part 35: the lemmas of a run under few names. -/
noncomputable section
namespace Go.Ab
open Go
theorem sC : type_of% (And.intro @Ew_seq (And.intro @Ew_region (And.intro @Ew_draw (And.intro @Ew_cond (And.intro @Ew_block (And.intro @Ew_skip (And.intro @Ew_exit (And.intro @Ew_ret (And.intro @Ew_scope (And.intro @runOps_cons (And.intro @runOps_nil (And.intro @wanted_none (And.intro @wanted_some (And.intro @setDst_some (And.intro @setDst_none (And.intro @ev_t (And.intro @ev_c (@V_U)))))))))))))))))) := And.intro @Ew_seq (And.intro @Ew_region (And.intro @Ew_draw (And.intro @Ew_cond (And.intro @Ew_block (And.intro @Ew_skip (And.intro @Ew_exit (And.intro @Ew_ret (And.intro @Ew_scope (And.intro @runOps_cons (And.intro @runOps_nil (And.intro @wanted_none (And.intro @wanted_some (And.intro @setDst_some (And.intro @setDst_none (And.intro @ev_t (And.intro @ev_c (@V_U)))))))))))))))))
theorem sD : type_of% (And.intro @draw_nil (And.intro @draw_pure (And.intro @draw_read (And.intro @draw_eff (And.intro @stays_0 (And.intro @flts_nil (And.intro @Nat.lt_irrefl (@Nat.sub_self)))))))) := And.intro @draw_nil (And.intro @draw_pure (And.intro @draw_read (And.intro @draw_eff (And.intro @stays_0 (And.intro @flts_nil (And.intro @Nat.lt_irrefl (@Nat.sub_self)))))))
theorem sO : type_of% (And.intro @Int.natCast_nonneg (And.intro @ia_add (And.intro @ia_sub (And.intro @ia_mul (And.intro @ia_quo (And.intro @ia_rem (And.intro @ia_eql (And.intro @ia_neq (And.intro @ia_lss (And.intro @ia_leq (And.intro @ia_gtr (And.intro @ia_geq (And.intro @opLen_s (And.intro @opLen_t (And.intro @lenL_eq (And.intro @eqBytes_dec (And.intro @Int.ofNat_eq_natCast (And.intro @Int.toNat_natCast (And.intro @decide_true (And.intro @decide_false (And.intro @ge_iff_le.{0} (And.intro @gt_iff_lt.{0} (And.intro @Bool.not_true (And.intro @Bool.not_false (And.intro @beq_self_eq_true.{0} (And.intro @int_beq (And.intro @int_bne (And.intro @Bool.false_beq (@Bool.true_beq))))))))))))))))))))))))))))) := And.intro @Int.natCast_nonneg (And.intro @ia_add (And.intro @ia_sub (And.intro @ia_mul (And.intro @ia_quo (And.intro @ia_rem (And.intro @ia_eql (And.intro @ia_neq (And.intro @ia_lss (And.intro @ia_leq (And.intro @ia_gtr (And.intro @ia_geq (And.intro @opLen_s (And.intro @opLen_t (And.intro @lenL_eq (And.intro @eqBytes_dec (And.intro @Int.ofNat_eq_natCast (And.intro @Int.toNat_natCast (And.intro @decide_true (And.intro @decide_false (And.intro @ge_iff_le.{0} (And.intro @gt_iff_lt.{0} (And.intro @Bool.not_true (And.intro @Bool.not_false (And.intro @beq_self_eq_true.{0} (And.intro @int_beq (And.intro @int_bne (And.intro @Bool.false_beq (@Bool.true_beq))))))))))))))))))))))))))))
theorem sF : type_of% (And.intro @envOf_cons (And.intro @envOf_nil (And.intro @fin_normal (And.intro @fin_ret (And.intro @resV_0 (And.intro @resV_1 (And.intro @resV_2 (@resV_3)))))))) := And.intro @envOf_cons (And.intro @envOf_nil (And.intro @fin_normal (And.intro @fin_ret (And.intro @resV_0 (And.intro @resV_1 (And.intro @resV_2 (@resV_3)))))))
theorem sM : type_of% (And.intro @St.newK_eq (And.intro @opStore_s (And.intro @stS_ptr (And.intro @opLoad_s (And.intro @opFieldAddr_s (And.intro @opIaSl_s (And.intro @fldA_ptr (And.intro @ldA_ptr (And.intro @St.get_new_same (And.intro @St.get_put_same (And.intro @loadL_none (And.intro @loadL_2 (And.intro @loadL_3 (And.intro @loadL_6 (And.intro @putX_all6 (And.intro @putX_all3 (And.intro @putX_all2 (And.intro @putX_all1 (And.intro @cells_agg (And.intro @cells_int (And.intro @cells_bool (And.intro @cells_str (And.intro @cells_func (And.intro @cells_slice (And.intro @one_int (And.intro @one_bool (And.intro @one_str (And.intro @one_func (And.intro @one_slice (And.intro @List.length_cons.{0} (And.intro @List.length_nil.{0} (And.intro @Nat.zero_add (And.intro @dropX_zero (And.intro @dropX_1 (And.intro @dropX_2 (And.intro @dropX_3 (And.intro @dropX_4 (And.intro @dropX_5 (And.intro @Bool.and_true (And.intro @and_true (And.intro @true_and (And.intro @Bool.false_eq_true (And.intro @St.new_next (@St.put_next)))))))))))))))))))))))))))))))))))))))))))) := And.intro @St.newK_eq (And.intro @opStore_s (And.intro @stS_ptr (And.intro @opLoad_s (And.intro @opFieldAddr_s (And.intro @opIaSl_s (And.intro @fldA_ptr (And.intro @ldA_ptr (And.intro @St.get_new_same (And.intro @St.get_put_same (And.intro @loadL_none (And.intro @loadL_2 (And.intro @loadL_3 (And.intro @loadL_6 (And.intro @putX_all6 (And.intro @putX_all3 (And.intro @putX_all2 (And.intro @putX_all1 (And.intro @cells_agg (And.intro @cells_int (And.intro @cells_bool (And.intro @cells_str (And.intro @cells_func (And.intro @cells_slice (And.intro @one_int (And.intro @one_bool (And.intro @one_str (And.intro @one_func (And.intro @one_slice (And.intro @List.length_cons.{0} (And.intro @List.length_nil.{0} (And.intro @Nat.zero_add (And.intro @dropX_zero (And.intro @dropX_1 (And.intro @dropX_2 (And.intro @dropX_3 (And.intro @dropX_4 (And.intro @dropX_5 (And.intro @Bool.and_true (And.intro @and_true (And.intro @true_and (And.intro @Bool.false_eq_true (And.intro @St.new_next (@St.put_next)))))))))))))))))))))))))))))))))))))))))))
end Go.Ab
end
