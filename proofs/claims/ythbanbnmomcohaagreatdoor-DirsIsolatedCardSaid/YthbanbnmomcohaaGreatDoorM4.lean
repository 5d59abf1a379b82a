/- The abstract machine, part 13: equality, conversions, ranges over strings. -/
import Derived.Test.YthbanbnmomcohaaGreatDoorM3
import Derived.Laws.BytesString
import Derived.Laws.MakeOwn
import Derived.Lib.UnsafeStr
import GoSem.Extern.BytealgIndexByte
import GoSem.Extern.BytealgCompare
set_option linter.all false
set_option linter.unusedSimpArgs false
namespace Go.Ab
open Go Go.RowKit
section
variable {P : Program} {w0 w : World} {ν : List Place} {σ : St}

def OKS (P : Program) (S : Stat) : Prop := ∀ t ti, S.tt.get (path t) = some ti → OkTI P t ti

theorem withTI_elim {S : Stat} (hS : OKS P S) {t : TypeId} {f : TI → Bool} (h : withTI S t f = true) : ∃ ti, OkTI P t ti ∧ f ti = true := by
  unfold withTI at h
  split at h
  · rename_i ti hti; exact ⟨ti, hS t ti hti, h⟩
  · simp at h

def EqSays (P : Program) (t : TypeId) : EqK → Prop
  | .bool => P.underlying t = some .bool
  | .int => ∃ j, P.underlying t = some (.int j)
  | .ptr => ∃ e te, P.underlying t = some (.pointer e) ∧ OkTI P e te ∧ te.size ≠ 0
  | .slice => ∃ e, P.underlying t = some (.slice e)
  | .func => ∃ a b c, P.underlying t = some (.func a b c)
  | .iface => ∃ a, P.underlying t = some (.interface a)
  | _ => False

theorem okEq_says {S : Stat} (hS : OKS P S) {t : TypeId} {k : EqK} (h : okEq S t k = true) : EqSays P t k := by
  obtain ⟨ti, ht, hf⟩ := withTI_elim hS h
  obtain ⟨d, hd, hdd⟩ := ht.und
  cases hti : ti.d <;> cases k <;> simp [hti] at hf
  all_goals rw [hti] at hdd
  · have := td_bool hdd; subst this; exact hd
  · have := td_int hdd; subst this; exact ⟨_, hd⟩
  · have := td_ptr hdd; subst this
    obtain ⟨te, he, h0⟩ := withTI_elim hS hf
    exact ⟨_, te, hd, he, by simpa using h0⟩
  · have := td_slice hdd; subst this; exact ⟨_, hd⟩
  · obtain ⟨_, _, _, rfl⟩ := td_func hdd; exact ⟨_, _, _, hd⟩
  · obtain ⟨_, rfl⟩ := td_iface hdd; exact ⟨_, hd⟩

set_option maxHeartbeats 1000000 in
theorem sim_eqV {t : TypeId} {k : EqK} (hk : EqSays P t k) {xv yv : AVal} {b : Bool} (h : eqV k xv yv = some b) {x y : Value} (hx : VR w0 ν xv x) (hy : VR w0 ν yv y) :
    (Op.equal t x y).run P w = .ok b w := by
  show (Op.equalIn (9999 + 1) t x y).run P w = .ok b w
  generalize 9999 = n
  cases k with
  | str => exact hk.elim
  | cells _ => exact hk.elim
  | bool =>
    have hd : P.underlying t = some .bool := hk
    cases xv <;> cases yv <;> simp [eqV] at h
    simp only [VR] at hx hy; subst hx; subst hy; subst h
    simp [Op.equalIn, run_underlying hd]
  | int =>
    obtain ⟨j, hd⟩ := hk
    cases xv <;> cases yv <;> simp [eqV] at h
    simp only [VR] at hx hy; subst hx; subst hy
    obtain ⟨rfl, rfl⟩ := h
    simp [Op.equalIn, run_underlying hd]
  | ptr =>
    obtain ⟨e, te, hd, he, h0⟩ := hk
    cases xv <;> cases yv <;> simp [eqV] at h
    all_goals simp only [VR] at hx hy
    · subst hx; subst hy; subst h; simp [Op.equalIn, run_underlying hd]
    · obtain ⟨p, _, rfl⟩ := hy; subst hx; subst h; simp [Op.equalIn, run_underlying hd]
    · obtain ⟨r, o, rfl, _⟩ := hy; subst hx; subst h; simp [Op.equalIn, run_underlying hd]
    · obtain ⟨p, _, rfl⟩ := hx; subst hy; subst h; simp [Op.equalIn, run_underlying hd]
    · obtain ⟨p, hp, rfl⟩ := hx
      obtain ⟨p', hp', rfl⟩ := hy
      obtain ⟨rfl, rfl⟩ := h
      rw [hp] at hp'; cases hp'
      rename_i i j
      have hb : ((⟨p.block, p.off + i, none⟩ : Addr) == ⟨p.block, p.off + j, none⟩) = (i == j) := by
        rw [Bool.eq_iff_iff]; simp
      simp [Op.equalIn, run_underlying hd, he.sizeOf, h0, sameAddr, hb]
    · obtain ⟨r, o, rfl, _⟩ := hx; subst hy; subst h; simp [Op.equalIn, run_underlying hd]
  | slice =>
    obtain ⟨e, hd⟩ := hk
    cases xv <;> cases yv <;> simp [eqV] at h
    all_goals simp only [VR] at hx hy
    · subst hx; subst hy; subst h; simp [Op.equalIn, run_underlying hd]
    · obtain ⟨p, a, cap, _, rfl, _⟩ := hy; subst hx; subst h; simp [Op.equalIn, run_underlying hd]
    · obtain ⟨a0, cap, rfl, _⟩ := hy; subst hx; subst h; simp [Op.equalIn, run_underlying hd]
    · obtain ⟨p, a, cap, _, rfl, _⟩ := hx; subst hy; subst h; simp [Op.equalIn, run_underlying hd]
    · obtain ⟨a0, cap, rfl, _⟩ := hx; subst hy; subst h; simp [Op.equalIn, run_underlying hd]
  | func =>
    obtain ⟨_, _, _, hd⟩ := hk
    cases xv <;> cases yv <;> simp [eqV] at h
    all_goals simp only [VR] at hx hy
    · obtain ⟨_, _, rfl, _⟩ := hx; subst hy; subst h; simp [Op.equalIn, run_underlying hd]
    · obtain ⟨_, _, rfl, _⟩ := hy; subst hx; subst h; simp [Op.equalIn, run_underlying hd]
    · subst hx; subst hy; subst h; simp [Op.equalIn, run_underlying hd]
  | iface =>
    obtain ⟨_, hd⟩ := hk
    cases xv <;> cases yv <;> simp [eqV] at h
    all_goals simp only [VR] at hx hy
    · obtain ⟨_, rfl, _⟩ := hx; subst hy; subst h; simp [Op.equalIn, run_underlying hd]
    · obtain ⟨_, rfl, _⟩ := hy; subst hx; subst h; simp [Op.equalIn, run_underlying hd]

theorem VR_noagg {v : AVal} {x : Value} (h : VR w0 ν v x) (hv : ∀ cs, v ≠ .agg cs) : ∀ cs, x ≠ .agg cs := by
  rintro cs rfl
  cases v <;> simp only [VR] at h
  all_goals first
    | (exact absurd rfl (hv _))
    | (simp at h; done)
theorem VR_nili {v : AVal} (h : VR w0 ν v .nilIface) : v = .nili := by
  cases v <;> simp only [VR] at h
  all_goals first
    | rfl
    | (simp at h; done)

/-- The check ahead of '==' lets such values by. -/
theorem eqV_guard {k : EqK} {xv yv : AVal} {b : Bool} (h : eqV k xv yv = some b) (hc : ∀ ks, k ≠ .cells ks) {x y : Value} (hx : VR w0 ν xv x) (hy : VR w0 ν yv y) :
    (∀ cs, x ≠ .agg cs) ∧ ¬ (x = .nilIface ∧ y = .nilIface) := by
  refine ⟨VR_noagg hx ?_, ?_⟩
  · rintro cs rfl
    cases k with
    | cells ks => exact hc ks rfl
    | _ => cases yv <;> simp [eqV] at h
  · rintro ⟨rfl, rfl⟩
    have h1 := VR_nili hx
    have h2 := VR_nili hy
    subst h1; subst h2
    cases k <;> simp [eqV] at h

/-! ## Conversions -/
theorem valid_toNat (c : Nat) : UInt8.toNat (UInt8.ofNat c) = c % 256 := by simp

theorem bytesOf_mk (l : List UInt8) : bytesOf ⟨l.toArray⟩ = l.map (·.toNat) := by simp [bytesOf]

theorem encode_key (c : Nat) (h : c < 0x110000) :
    bytesOf (if c < 0x80 then ⟨#[UInt8.ofNat c]⟩ else if c < 0x800 then ⟨#[UInt8.ofNat (0xC0 + c / 64), UInt8.ofNat (0x80 + c % 64)]⟩
      else if c < 0x10000 then ⟨#[UInt8.ofNat (0xE0 + c / 4096), UInt8.ofNat (0x80 + c / 64 % 64), UInt8.ofNat (0x80 + c % 64)]⟩
      else ⟨#[UInt8.ofNat (0xF0 + c / 262144), UInt8.ofNat (0x80 + c / 4096 % 64), UInt8.ofNat (0x80 + c / 64 % 64), UInt8.ofNat (0x80 + c % 64)]⟩) =
    (if c < 0x80 then [c] else if c < 0x800 then [0xC0 + c / 64, 0x80 + c % 64] else if c < 0x10000 then [0xE0 + c / 4096, 0x80 + c / 64 % 64, 0x80 + c % 64]
      else [0xF0 + c / 262144, 0x80 + c / 4096 % 64, 0x80 + c / 64 % 64, 0x80 + c % 64]) := by
  split
  · simp [bytesOf]; omega
  · split
    · simp [bytesOf]; omega
    · split
      · simp [bytesOf]; omega
      · simp [bytesOf]; omega

theorem encode_eq (r : Int) : bytesOf (Utf8.encode r) = encodeL r := by
  have hc : (if Utf8.valid r then r.toNat else 0xFFFD) < 0x110000 := by
    split
    · rename_i hv
      unfold Utf8.valid at hv
      simp at hv
      omega
    · omega
  exact encode_key _ hc

theorem decode_eq (s : ByteArray) (i : Nat) : Utf8.decode s i = decodeL ((bytesOf s).drop i) := by
  have hat : ∀ k, (s.get! (i + k)).toNat = ((bytesOf s).drop i).getD k 0 := by
    intro k
    rw [List.getD_eq_getElem?_getD, List.getElem?_drop, bytesOf_get]
    by_cases h : i + k < s.size
    · rw [getElem?_pos s (i + k) h]
      simp only [Option.map_some, Option.getD_some]
      congr 1
      show s.data.get!Internal (i + k) = s.data[i + k]
      rw [Array.get!Internal_eq_getElem!]
      exact getElem!_pos s.data (i + k) h
    · rw [getElem?_neg s (i + k) h]
      simp only [Option.map_none, Option.getD_none]
      have : s.get! (i + k) = 0 := by
        show s.data.get!Internal (i + k) = 0
        rw [Array.get!Internal_eq_getElem!]
        exact getElem!_neg s.data (i + k) h
      rw [this]; rfl
  have hlen : ∀ k, (decide (i + k < s.size)) = decide (k < lenL ((bytesOf s).drop i)) := by
    intro k
    rw [lenL_eq, List.length_drop, bytesOf_length]
    rw [decide_eq_decide]; omega
  unfold Utf8.decode decodeL
  simp only [hat, hlen, Utf8.runeError]
end
end Go.Ab

namespace Go.Ab
open Go Go.RowKit
section
variable {P : Program} {w0 w : World} {ν : List Place} {σ : St}

theorem OkTI.cases {t : TypeId} {ti : TI} (h : OkTI P t ti) : ∃ d, P.underlying t = some d := let ⟨d, hd, _⟩ := h.und; ⟨d, hd⟩

theorem sim_toInt (hrel : Rel w0 ν σ w) {s d : TypeId} {ts td : TI} {k : IntKind} (hs : OkTI P s ts) (hd : OkTI P d td) (hk : td.d = .int k) {k' : IntKind} {n : Int} {x : Value} (hx : VR w0 ν (.int k' n) x) :
    Gives P w0 ν σ (.int k (wrapI k n)) (Go.convert s d x) w := by
  obtain ⟨e1, h1, _⟩ := hs.und
  obtain ⟨e2, h2, hh⟩ := hd.und
  rw [hk] at hh
  have := td_int hh; subst this
  simp only [VR] at hx; subst hx
  refine .same hrel (x := .int k (k.wrap n)) (by simp only [VR, wrapI_eq]) ?_
  cases e1 <;> simp [Go.convert, run_underlying h1, run_underlying h2, Conv.intToInt]

theorem sim_intStr (hrel : Rel w0 ν σ w) {s d : TypeId} {ts td : TI} (hs : OkTI P s ts) (hd : OkTI P d td) (hk : td.d = .str) {k' : IntKind} {n : Int} {x : Value} (hx : VR w0 ν (.int k' n) x) :
    Gives P w0 ν σ (.str (encodeL n)) (Go.convert s d x) w := by
  obtain ⟨e1, h1, _⟩ := hs.und
  obtain ⟨e2, h2, hh⟩ := hd.und
  rw [hk] at hh
  have := td_str hh; subst this
  simp only [VR] at hx; subst hx
  refine .same hrel (x := .string (Utf8.encode n)) (by simp only [VR]; exact ⟨_, rfl, encode_eq n⟩) ?_
  cases e1 <;> simp [Go.convert, run_underlying h1, run_underlying h2, Conv.intToString]

/-- A mark one past a block's end. -/
theorem Rel.stamp (hrel : Rel w0 ν σ w) {b : Nat} {e : TypeId} {cs : List AVal} (hb : σ.get b = some (.cells true e cs)) {p : Place} (hp : ν[b]? = some p) :
    Rel w0 ν σ (w.freeze ⟨p.block, cs.length, none⟩ 1) := by
  obtain ⟨q, hq, hq0, ho⟩ := hrel.live b _ hb
  rw [hp] at hq; cases hq
  obtain ⟨hcl, c, fr, hc, hce, hfr, hcv, hfix⟩ := ho
  obtain ⟨h1, h2, h3, h4⟩ := hfix rfl
  have hw : ∀ k, k ≠ p.block → (w.freeze ⟨p.block, cs.length, none⟩ 1).heap[k]? = w.heap[k]? := by
    intro k hk
    simp only [World.freeze]
    simp [Array.getElem?_modify, Ne.symm hk]
  have hb' : (w.freeze ⟨p.block, cs.length, none⟩ 1).heap[p.block]? = some (.cells c e (if fr.1 == fr.2 then (cs.length, cs.length + 1) else (min fr.1 cs.length, max fr.2 (cs.length + 1)))) := by
    simp only [World.freeze]
    simp [Array.getElem?_modify, hc]
  have hbelow : Below w0.heap.size w (w.freeze ⟨p.block, cs.length, none⟩ 1) :=
    ⟨rfl, rfl, rfl, by simp [World.freeze], fun k hk => hw k (by omega)⟩
  have : Rel w0 ν (σ.put b (.cells true e cs)) (w.freeze ⟨p.block, cs.length, none⟩ 1) := by
    refine hrel.put hb hp hbelow hw ⟨hcl, c, _, hb', hce, fun j hj => ?_, hcv, fun _ => ⟨h1, h2, h3, ?_⟩⟩
    · split
      · simp only; omega
      · rename_i hne
        simp only
        have hne' : fr.1 ≠ fr.2 := by simpa using hne
        rcases h4 with h4 | h4
        · exact absurd h4 hne'
        · intro hh; have := hh.1; simp only [Nat.min_def] at this; split at this <;> omega
    · split
      · right; simp only; omega
      · rename_i hne
        have hne' : fr.1 ≠ fr.2 := by simpa using hne
        rcases h4 with h4 | h4
        · exact absurd h4 hne'
        · right; simp only; rw [Nat.min_def]; split <;> omega
  -- the same state
  have hget : (σ.put b (.cells true e cs)).get = σ.get := by
    funext c'
    by_cases e' : c' = b
    · subst e'; rw [St.get_put_same, hb]
    · rw [St.get_put_other _ _ e']
  exact ⟨this.below, this.next, fun c' o h => this.live c' o (by rw [hget]; exact h), fun c1 c2 o1 o2 q q' g1 g2 => this.apart c1 c2 o1 o2 q q' (by rw [hget]; exact g1) (by rw [hget]; exact g2)⟩

theorem sim_stamp (hrel : Rel w0 ν σ w) {s e : TypeId} {ts te : TI} (hs : OkTI P s ts) (hts : ts.d = .slice e) (he : OkTI P e te) (hte : te.d = .int .u8) {b i n sz : Nat} {eb : TypeId} {cs : List AVal}
    (hb : σ.get b = some (.cells true eb cs)) {x : Value} (hx : VR w0 ν (.slice b i (n + 1) sz) x) : Gives P w0 ν σ (.slice b i (n + 1) sz) (Go.convert s s x) w := by
  obtain ⟨e1, h1, hh⟩ := hs.und
  rw [hts] at hh
  have := td_slice hh; subst this
  obtain ⟨e2, h2, hh2⟩ := he.und
  rw [hte] at hh2
  have := td_int hh2; subst this
  have hx' := hx
  simp only [VR] at hx
  obtain ⟨p, a, cap, hp, rfl, hn, hs0, hext, ha⟩ := hx
  have ha' : a = ⟨p.block, p.off + i, none⟩ := by
    rcases ha with ha | ha
    · omega
    · exact ha
  subst ha'
  obtain ⟨q, hq, hq0, ho⟩ := hrel.live b _ hb
  rw [hp] at hq; cases hq
  obtain ⟨hcl, c, fr, hc, hce, hfr, hcv, hfix⟩ := ho
  obtain ⟨g1, g2, g3, g4⟩ := hfix rfl
  refine ⟨ν, _, _, List.prefix_refl _, hx', hrel.stamp hb hp, ?_⟩
  have hsh : w.shape? p.block = some (eb, cs.length) := by simp [World.shape?, hc, g2]
  simp [Go.convert, run_underlying h1, run_underlying h2, markStringish, hsh]

/-! ## Strings into slices and back -/
theorem run_runesFrom (s : ByteArray) : ∀ (bound i : Nat) (acc : Array Value), s.size - i ≤ bound →
    (Conv.runesFrom s bound i acc).toList = acc.toList ++ (Conv.runesFrom s bound i #[]).toList
  | 0, i, acc, _ => by simp [Conv.runesFrom]
  | bound + 1, i, acc, h => by
    unfold Conv.runesFrom
    by_cases hi : i < s.size
    · simp only [hi, if_true]
      have hw : 1 ≤ (Utf8.decode s i).2 := by
        unfold Utf8.decode; simp only; (repeat' split) <;> simp
      rw [run_runesFrom s bound _ _ (by omega)]
      rw [run_runesFrom s bound _ (#[].push _) (by omega)]
      simp
    · simp [hi]

theorem decodeL_pos (l : List Nat) : 1 ≤ (decodeL l).2 := by
  unfold decodeL; simp only; (repeat' split) <;> simp

theorem VRs_runes (s : ByteArray) : ∀ (f i : Nat), s.size - i ≤ f → VRs w0 ν (runesL f ((bytesOf s).drop i)) (Conv.runesFrom s f i #[]).toList
  | 0, i, h => by simp [runesL, Conv.runesFrom, VRs]
  | f + 1, i, h => by
    unfold runesL Conv.runesFrom
    by_cases hi : i < s.size
    · simp only [hi, if_true]
      have hne : (bytesOf s).drop i ≠ [] := by
        intro h0
        have := congrArg List.length h0
        rw [List.length_drop, bytesOf_length] at this
        simp at this; omega
      split
      · rename_i h0; exact absurd h0 hne
      · rename_i h0
        have hw := decodeL_pos ((bytesOf s).drop i)
        rw [decode_eq]
        rw [run_runesFrom s f _ _ (by omega)]
        simp only [Array.toList_push, List.nil_append, List.singleton_append, VRs]
        refine ⟨_, _, rfl, by simp only [VR], ?_⟩
        rw [List.drop_drop]
        exact VRs_runes s f _ (by omega)
    · have h0 : (bytesOf s).drop i = [] := by
        apply List.drop_eq_nil_of_le; rw [bytesOf_length]; omega
      rw [h0]
      simp [hi, VRs]

/-- A row made of a string, with whatever room behind it. -/
theorem Rel.new_spare (hrel : Rel w0 ν σ w) (e : TypeId) (as : List AVal) (vs : List Value) (h : VRs w0 ν as vs) (z : Value) (k : Nat) :
    Rel w0 (ν ++ [⟨w.heap.size, 0, (vs.toArray ++ Array.replicate k z).size⟩]) (σ.new (.cells false e as)) (w.alloc (.cells (vs.toArray ++ Array.replicate k z) e)) := by
  have hl := VRs_length h
  refine hrel.new_row e _ as false (fun j a ha => ?_) (by simp; omega) (by simp)
  obtain ⟨x, hx, hax⟩ := VRs_get h ha
  refine ⟨x, ?_, hax⟩
  have hj : j < vs.length := (List.getElem?_eq_some_iff.1 hx).1
  rw [Array.getElem?_append_left (by simpa using hj)]
  simpa using hx

theorem sim_bytes (hrel : Rel w0 ν σ w) {s d e : TypeId} {ts td te : TI} (hs : OkTI P s ts) (hd : OkTI P d td) (hk : td.d = .slice e) (he : OkTI P e te) (hte : te.d = .int .u8) {l : List Nat} {x : Value} (hx : VR w0 ν (.str l) x) :
    Gives P w0 ν (σ.new (.cells false e (cellsOfBytes l))) (.slice σ.next 0 (lenL l) 1) (Go.convert s d x) w := by
  obtain ⟨e1, h1, _⟩ := hs.und
  obtain ⟨e2, h2, hh⟩ := hd.und
  rw [hk] at hh
  have := td_slice hh; subst this
  obtain ⟨e3, h3, hh3⟩ := he.und
  rw [hte] at hh3
  have := td_int hh3; subst this
  simp only [VR] at hx
  obtain ⟨y, rfl, rfl⟩ := hx
  rw [lenL_eq, bytesOf_length]
  let cap := (Question.appendCap y.size 0 e).cut (w.tape w.drawn (Question.appendCap y.size 0 e))
  have hcap : y.size ≤ cap := by show _ ≤ (Question.appendCap y.size 0 e).cut _; simp [Question.cut]
  let vs : List Value := y.data.toList.map fun b => .int .u8 b.toNat
  have hvs : VRs w0 ν (cellsOfBytes (bytesOf y)) vs := VRs_bytes y
  have hvl : vs.length = y.size := by simp [vs]
  let row : Array Value := vs.toArray ++ Array.replicate (cap - y.size) (.int .u8 0)
  have hrow : row.size = cap := by simp [row, hvl]; omega
  have hnew : Rel w0 (ν ++ [⟨w.heap.size, 0, row.size⟩]) (σ.new (.cells false e (cellsOfBytes (bytesOf y)))) (w.drew.alloc (.cells row e)) := hrel.drew.new_spare e _ vs hvs (.int .u8 0) (cap - y.size)
  have hsz : w.drew.heap.size = w.heap.size := rfl
  have hfz : ∀ W : World, W.heap[w.heap.size]? = some (.cells row e (0, 0)) → (∀ k, k ≠ w.heap.size → (W.freeze ⟨w.heap.size, row.size, none⟩ 1).heap[k]? = W.heap[k]?) ∧ (W.freeze ⟨w.heap.size, row.size, none⟩ 1).heap[w.heap.size]? = some (.cells row e (row.size, row.size + 1)) := by
    intro W hW
    constructor
    · intro k hk; simp [World.freeze, Array.getElem?_modify, Ne.symm hk]
    · simp [World.freeze, Array.getElem?_modify, hW]
  have hW : (w.drew.alloc (.cells row e)).heap[w.heap.size]? = some (.cells row e (0, 0)) := by
    show (w.heap.push _)[w.heap.size]? = _; simp
  obtain ⟨hf1, hf2⟩ := hfz _ hW
  refine ⟨ν ++ [⟨w.heap.size, 0, row.size⟩], .slice (some ⟨w.heap.size, 0, none⟩) y.size cap, (w.drew.alloc (.cells row e)).freeze ⟨w.heap.size, row.size, none⟩ 1, List.prefix_append _ _, ?_, ?_, ?_⟩
  · exact VR_newslice hrel y.size cap 1 row.size hcap (by omega) (by omega)
  · have hb : (σ.new (.cells false e (cellsOfBytes (bytesOf y)))).get σ.next = some (.cells false e (cellsOfBytes (bytesOf y))) := St.get_new_same _ _
    have hp : (ν ++ [(⟨w.heap.size, 0, row.size⟩ : Place)])[σ.next]? = some ⟨w.heap.size, 0, row.size⟩ := new_get hrel _
    have hb0 : w0.heap.size ≤ w.heap.size := hrel.below.size
    have hput := hnew.put hb hp (w' := (w.drew.alloc (.cells row e)).freeze ⟨w.heap.size, row.size, none⟩ 1) (o' := .cells false e (cellsOfBytes (bytesOf y)))
      ⟨rfl, rfl, rfl, by simp [World.freeze], fun k hk => hf1 k (by omega)⟩ hf1 (by
        obtain ⟨q, hq, _, ho⟩ := hnew.live _ _ hb
        rw [hp] at hq; cases hq
        obtain ⟨o1, c, fr, hc, o2, o3, o4, _⟩ := ho
        have hce : c = row ∧ fr = (0, 0) := by
          have hc' : (w.drew.alloc (.cells row e)).heap[w.heap.size]? = some (.cells c e fr) := hc
          rw [hW] at hc'; simp at hc'; exact ⟨hc'.1.symm, hc'.2.symm⟩
        obtain ⟨rfl, rfl⟩ := hce
        exact ⟨o1, row, _, hf2, o2, fun j hj => by simp at hj ⊢; omega, o4, by simp⟩)
    have hget : ((σ.new (.cells false e (cellsOfBytes (bytesOf y)))).put σ.next (.cells false e (cellsOfBytes (bytesOf y)))).get = (σ.new (.cells false e (cellsOfBytes (bytesOf y)))).get := by
      funext c'
      by_cases e' : c' = σ.next
      · subst e'; rw [St.get_put_same, hb]
      · rw [St.get_put_other _ _ e']
    exact ⟨hput.below, hput.next, fun c' o h => hput.live c' o (by rw [hget]; exact h), fun c1 c2 o1 o2 q q' g1 g2 => hput.apart c1 c2 o1 o2 q q' (by rw [hget]; exact g1) (by rw [hget]; exact g2)⟩
  · have hff : (Question.appendCap y.size 0 e).forced = false := rfl
    have hmap : (y.data.map fun b => Value.int .u8 b.toNat) = vs.toArray := by apply Array.ext'; simp [vs]
    have hsh : (w.drew.alloc (.cells row e)).shape? w.heap.size = some (e, row.size) := by simp only [World.shape?, hW]
    have hcc : Go.convert s d (.string y) = Go.convert s d (.string y) := rfl
    cases e1 <;>
      (simp only [Go.convert, Sem.run_bind, run_underlying h1, run_underlying h2, Result.andThen_ok, run_underlying h3, Conv.stringToBytes, run_choose, hff, Bool.false_eq_true, if_false, newRow, run_newObj, Sem.run_pure, hmap, markStringish, run_shape]
       rw [show ({ w with heap := w.heap.push (.cells (vs.toArray ++ Array.replicate ((Question.appendCap y.size 0 e).cut (w.tape w.drawn (Question.appendCap y.size 0 e)) - y.size) (.int .u8 0)) e), drawn := w.drawn + 1 } : World) = w.drew.alloc (.cells row e) from rfl]
       simp only [hsh, Sem.run_bind, run_freeze, Result.andThen_ok]
       rfl)
end
end Go.Ab

namespace Go.Ab
open Go Go.RowKit
section
variable {P : Program} {w0 w : World} {ν : List Place} {σ : St}

theorem bytesOfCells_vals : ∀ {cs : List AVal} {l : List Nat} {vs : List Value}, bytesOfCells cs = some l → VRs w0 ν cs vs → ∃ ns : List Int, vs = ns.map (.int .u8) ∧ l = ns.map fun n => n.toNat % 256
  | [], l, vs, h, hv => by
    simp [bytesOfCells] at h; subst h
    simp only [VRs] at hv; subst hv
    exact ⟨[], rfl, rfl⟩
  | c :: cs, l, vs, h, hv => by
    cases c with
    | int k n =>
      cases k with
      | u8 =>
        simp only [bytesOfCells] at h
        split at h
        · rename_i r hr
          simp at h; subst h
          simp only [VRs] at hv
          obtain ⟨x, xs, rfl, hx, hxs⟩ := hv
          simp only [VR] at hx; subst hx
          obtain ⟨ns, rfl, rfl⟩ := bytesOfCells_vals hr hxs
          exact ⟨n :: ns, rfl, rfl⟩
        · simp at h
      | _ => simp [bytesOfCells] at h
    | _ => simp [bytesOfCells] at h

theorem bytesOf_fold : ∀ (ns : List Int) (s : ByteArray), bytesOf (ns.foldl (fun r n => r.push (UInt8.ofNat n.toNat)) s) = bytesOf s ++ ns.map fun n => n.toNat % 256
  | [], s => by simp
  | n :: ns, s => by
    simp only [List.foldl_cons, List.map_cons]
    rw [bytesOf_fold ns]
    simp [bytesOf]

theorem sim_strOf (hrel : Rel w0 ν σ w) {s d e : TypeId} {ts td te : TI} (hs : OkTI P s ts) (hts : ts.d = .slice e) (hd : OkTI P d td) (hk : td.d = .str) (he : OkTI P e te) (hte : te.d = .int .u8) {xv : AVal} (hnos : ∀ t, xv ≠ .str t)
    {n : Nat} {cs : List AVal} {l : List Nat} (hc : cellsIn σ 1 xv = some (n, cs)) (hl : bytesOfCells cs = some l) {x : Value} (hx : VR w0 ν xv x) : Gives P w0 ν σ (.str l) (Go.convert s d x) w := by
  obtain ⟨e1, h1, hh1⟩ := hs.und
  rw [hts] at hh1
  have := td_slice hh1; subst this
  obtain ⟨e2, h2, hh⟩ := hd.und
  rw [hk] at hh
  have := td_str hh; subst this
  obtain ⟨e3, h3, hh3⟩ := he.und
  rw [hte] at hh3
  have := td_int hh3; subst this
  obtain ⟨hlen, vs, hvs, hrun, hll⟩ := cells_sim (P := P) hrel hc hx
  obtain ⟨ns, rfl, rfl⟩ := bytesOfCells_vals hl hvs
  have hconv : (Go.convert s d x).run P w = (Conv.bytesToString x).run P w := by
    unfold cellsIn at hc
    split at hc
    · simp only [VR] at hx; subst hx
      simp [Go.convert, run_underlying h1, run_underlying h2, run_underlying h3]
    · simp only [VR] at hx
      obtain ⟨p, a, cap, _, rfl, _⟩ := hx
      simp [Go.convert, run_underlying h1, run_underlying h2, run_underlying h3]
    · simp only [VR] at hx
      obtain ⟨a0, cap, rfl, _⟩ := hx
      simp [Go.convert, run_underlying h1, run_underlying h2, run_underlying h3]
    · exact absurd rfl (hnos _)
    · simp at hc
  have hres : ∃ a : Option Addr, ∃ m cap : Nat, x = .slice a m cap := by
    unfold cellsIn at hc
    split at hc
    · simp only [VR] at hx; exact ⟨none, 0, 0, hx⟩
    · simp only [VR] at hx
      obtain ⟨p, a, cap, _, rfl, _⟩ := hx
      exact ⟨_, _, _, rfl⟩
    · simp only [VR] at hx
      obtain ⟨a0, cap, rfl, _⟩ := hx
      exact ⟨_, _, _, rfl⟩
    · exact absurd rfl (hnos _)
    · simp at hc
  obtain ⟨a, m, cap, rfl⟩ := hres
  have hm : m = n := by simp [Builtin.lenOf] at hlen; exact hlen
  subst hm
  refine .same hrel (x := .string (ns.foldl (fun r n => r.push (UInt8.ofNat n.toNat)) ByteArray.empty)) (by simp only [VR]; exact ⟨_, rfl, by rw [bytesOf_fold]; rfl⟩) ?_
  rw [hconv]
  cases a with
  | none =>
    simp [Builtin.firstCells] at hrun
    cases ns with
    | nil => simp [Conv.bytesToString]
    | cons n ns => simp at hrun
  | some a =>
    exact run_bytesToString w a m cap ns (by simpa [Builtin.firstCells] using hrun)

/-! ## Ranges over strings -/
theorem sim_range (hrel : Rel w0 ν σ w) {t : TypeId} {ti : TI} (ht : OkTI P t ti) (hti : ti.d = .str) {s : List Nat} {x : Value} (hx : VR w0 ν (.str s) x) : Gives P w0 ν (σ.new (.iter 0 s)) (.ptr σ.next 0) (Instr.range t x) w := by
  obtain ⟨d, hd, hdd⟩ := ht.und
  rw [hti] at hdd
  have := td_str hdd; subst this
  simp only [VR] at hx
  obtain ⟨y, rfl, rfl⟩ := hx
  refine ⟨ν ++ [⟨w.heap.size, 0, 1⟩], .pointer (some ⟨w.heap.size, 0, none⟩), w.alloc (.stringIter y 0), List.prefix_append _ _, VR_newptr hrel 1, ?_, ?_⟩
  · refine hrel.new _ _ ⟨w.heap.size, 0, 1⟩ rfl ((Below.refl _ _).alloc hrel.below.size _) (fun k hk => Below.heap_alloc _ _ _ hk) ?_
    exact ⟨rfl, y, by show (w.heap.push _)[w.heap.size]? = _; simp, Nat.zero_le _, by simp⟩
  · simp [Instr.range, run_underlying hd]

theorem sim_next (hrel : Rel w0 ν σ w) {x : Value} (T : Tab) (env : Env) {xo : Opd} {xv r : AVal} (hx : VR w0 ν xv x) (hxo : xo.ev T env = xv) {σ' : St} (h : opNext T false xo env σ = some (r, σ')) (ty : TypeId) : Gives P w0 ν σ' r (Instr.next x true ty) w := by
  unfold opNext at h
  simp only [Bool.false_eq_true, if_false, hxo] at h
  split at h
  · rename_i b
    simp only [VR] at hx
    obtain ⟨p, hp, rfl⟩ := hx
    split at h
    · rename_i pos rest hb
      obtain ⟨q, hq, hq0, ho⟩ := hrel.live b _ hb
      rw [hp] at hq; cases hq
      obtain ⟨h0, s, hs, hpos, hrest⟩ := ho
      have haddr : (⟨p.block, p.off + 0, none⟩ : Addr) = ⟨p.block, 0, none⟩ := by rw [h0]
      rw [haddr]
      split at h
      · -- over
        simp at h; obtain ⟨rfl, rfl⟩ := h
        have hle : ¬ pos < s.size := by
          have := congrArg List.length hrest
          rw [List.length_drop, bytesOf_length] at this
          simp at this; omega
        refine .same hrel (x := .tuple #[.bool false]) (by simp only [VR]; exact ⟨[.bool false], rfl, by simp [VRs, VR]⟩) ?_
        simp [Instr.next, getObj, Sem.run, hs, hle]
      · rename_i c l
        split at h
        · rename_i rest' hdr
          obtain ⟨hdl, rfl⟩ := dropX_eq.1 hdr
          have hlt : pos < s.size := by
            have := congrArg List.length hrest
            rw [List.length_drop, bytesOf_length] at this
            simp at this; omega
          have hforce : ∀ {β : Type} (n : Nat) (k : Int → β), forceI (Int.ofNat n) k = k (Int.ofNat n) := by
            intro β n k
            cases n <;> rfl
          rw [hforce, St.putK_eq] at h
          simp only [Option.some.injEq, Prod.mk.injEq] at h; obtain ⟨rfl, rfl⟩ := h
          have hdec : Utf8.decode s pos = decodeL (c :: l) := by rw [decode_eq, hrest]
          let w' : World := { w with heap := w.heap.setIfInBounds p.block (.stringIter s (pos + (decodeL (c :: l)).2)) }
          have hblt : p.block < w.heap.size := (Array.getElem?_eq_some_iff.1 hs).1
          refine ⟨ν, .tuple #[.bool true, .int .i64 pos, .int .i32 (decodeL (c :: l)).1], w', List.prefix_refl _, ?_, ?_, ?_⟩
          · simp only [VR]; exact ⟨[.bool true, .int .i64 pos, .int .i32 (decodeL (c :: l)).1], rfl, by simp [VRs, VR]⟩
          · have hother : ∀ k, k ≠ p.block → w'.heap[k]? = w.heap[k]? := by
              intro k hk
              show (w.heap.setIfInBounds _ _)[k]? = _
              rw [Array.getElem?_setIfInBounds, if_neg (Ne.symm hk)]
            refine hrel.put hb hp ⟨rfl, rfl, rfl, by show _ ≤ (w.heap.setIfInBounds _ _).size; simp, fun k hk => hother k (by omega)⟩ hother ?_
            refine ⟨h0, s, ?_, ?_, ?_⟩
            · show (w.heap.setIfInBounds _ _)[p.block]? = _
              rw [Array.getElem?_setIfInBounds, if_pos rfl, if_pos hblt]
              rfl
            · show pos + (decodeL (c :: l)).2 ≤ s.size
              have := congrArg List.length hrest
              rw [List.length_drop, bytesOf_length] at this
              simp at this hdl; omega
            · show (bytesOf s).drop (pos + (decodeL (c :: l)).2) = _
              rw [← hrest, List.drop_drop]
          · have hss : ∀ o : Obj, (setObj p.block o).run P w = .ok () { w with heap := w.heap.setIfInBounds p.block o } := by
              intro o; simp [setObj, Sem.run, hs]
            simp only [Instr.next, Sem.run_bind, getObj, Sem.run, hs, Result.andThen_ok, hlt, if_true, hdec, hss, Sem.run_pure]
            rfl
        · simp at h
    · simp at h
  · simp at h

/-! ## make -/
theorem rep_length (z : List AVal) : ∀ n, (rep z n).length = n * z.length
  | 0 => by simp [rep]
  | n + 1 => by simp [rep, rep_length z n, Nat.add_mul, Nat.add_comm]

theorem rep_get (z : List AVal) (hz : 0 < z.length) : ∀ (n j : Nat), j < n * z.length → (rep z n)[j]? = z[j % z.length]?
  | 0, j, h => by simp at h
  | n + 1, j, h => by
    simp only [rep]
    by_cases hj : j < z.length
    · rw [List.getElem?_append_left hj, Nat.mod_eq_of_lt hj]
    · rw [List.getElem?_append_right (by omega), rep_get z hz n (j - z.length) (by rw [Nat.add_mul] at h; omega)]
      congr 1
      rw [← Nat.mod_eq_sub_mod (by omega)]

theorem sim_mkSlice (hrel : Rel w0 ν σ w) {t e : TypeId} {ti te : TI} (ht : OkTI P t ti) (hti : ti.d = .slice e) (he : OkTI P e te) (hz : te.zero.length = te.size) (hs : 0 < te.size) {kl kc : IntKind} {l c : Int} {x y : Value} (hx : VR w0 ν (.int kl l) x) (hy : VR w0 ν (.int kc c) y)
    (h0 : 0 ≤ l) (hlc : l ≤ c) (hb : c * (te.bytes : Int) ≤ 1099511627776) (hc : c ≤ 1099511627776) : Gives P w0 ν (σ.new (.cells true e (rep te.zero c.toNat))) (.slice σ.next 0 l.toNat te.size) (Instr.makeSlice t x y) w := by
  obtain ⟨d, hd, hdd⟩ := ht.und
  rw [hti] at hdd
  have := td_slice hdd; subst this
  obtain ⟨i, z, hi, hsz, hbt, hzz, hza⟩ := he.info
  simp only [VR] at hx hy; subst hx; subst hy
  have hvz := avals_VRs (w0 := w0) (ν := ν) hza
  have hzl := VRs_length hvz
  have hzs : z.cells.size = te.size := by simp at hzl; omega
  have hrun := run_make (P := P) w t e i z hd hi hzz kl kc l c h0 hlc (by rw [hbt]; rw [Int.mul_comm] at hb; omega) (by omega)
  have hm : (madeCells z.cells (c.toNat * i.size)).size = c.toNat * te.size := by rw [size_madeCells, hsz]
  refine ⟨ν ++ [⟨w.heap.size, 0, (madeCells z.cells (c.toNat * i.size)).size⟩], _, _, List.prefix_append _ _, ?_, ?_, hrun⟩
  · exact VR_newslice hrel l.toNat c.toNat te.size _ (by omega) (by omega) hs
  · refine hrel.new_row e _ _ true (fun j a ha => ?_) (by rw [hm, rep_length, hz]; exact Nat.le_refl _) (fun _ => by rw [hm, rep_length, hz])
    have hj : j < c.toNat * te.size := by
      have := (List.getElem?_eq_some_iff.1 ha).1
      rwa [rep_length, hz] at this
    rw [rep_get _ (by omega) _ _ (by rw [hz]; exact hj), hz] at ha
    obtain ⟨u, hu, hau⟩ := VRs_get hvz ha
    refine ⟨u, ?_, hau⟩
    have hjm : j % te.size < z.cells.size := by rw [hzs]; exact Nat.mod_lt _ hs
    have hu' : z.cells[j % te.size]? = some u := by simpa using hu
    have : (madeCells z.cells (c.toNat * i.size))[j]? = some (z.cells[j % z.cells.size]!) := by
      unfold madeCells
      rw [Array.getElem?_map, Array.getElem?_range, if_pos (by rw [hsz]; exact hj)]
      rfl
    rw [this, hzs, getElem!_pos z.cells _ hjm]
    rw [getElem?_pos z.cells _ hjm] at hu'
    exact hu'
end
end Go.Ab

namespace Go.Ab
open Go Go.RowKit
section
variable {P : Program} {w0 w : World} {ν : List Place} {σ : St}

/-! ## Literals -/
theorem foldl_set (vs : List Value) : ∀ (k : Nat) (cs : Array Value) (off : Nat), off + k + vs.length ≤ cs.size →
    ((vs.zipIdx k).foldl (fun cs (c, j) => cs.setIfInBounds (off + j) c) cs).toList = cs.toList.take (off + k) ++ vs ++ cs.toList.drop (off + k + vs.length) := by
  induction vs with
  | nil => intro k cs off h; simp
  | cons v vs ih =>
    intro k cs off h
    have hl : (v :: vs).length = vs.length + 1 := rfl
    rw [hl] at h ⊢
    simp only [List.zipIdx_cons, List.foldl_cons]
    rw [ih (k + 1) _ off (by simp; omega)]
    rw [Array.toList_setIfInBounds]
    have hlt : off + k < cs.toList.length := by simp; omega
    rw [List.take_set, List.drop_set]
    rw [if_pos (by omega)]
    rw [show off + (k + 1) = off + k + 1 by omega]
    rw [List.take_add_one, List.getElem?_eq_getElem hlt]
    simp only [Option.toList_some]
    rw [List.set_append_right _ _ (by simp; omega)]
    simp only [List.length_take]
    rw [Nat.min_eq_left (by omega), Nat.sub_self]
    simp only [List.set_cons_zero, List.append_assoc, List.cons_append, List.nil_append]
    congr 3
    rw [show off + k + 1 + vs.length = off + k + (vs.length + 1) by omega]

/-- Parts with their places, as the machine and the abstract one see them. -/
def PartsR (w0 : World) (ν : List Place) (place : Nat → Option (Nat × Nat)) : List (Nat × Nat × AVal) → List (Nat × Value) → Prop
  | [], [] => True
  | (off, size, v) :: ps, (i, x) :: qs => place i = some (off, size) ∧ VR w0 ν v x ∧ PartsR w0 ν place ps qs
  | _, _ => False

theorem fill_sim (place : Nat → Option (Nat × Nat)) : ∀ {ps : List (Nat × Nat × AVal)} {qs : List (Nat × Value)} (_ : PartsR w0 ν place ps qs) {pos : Nat} {cs r pre : List AVal} {arr : Array Value} (_ : VRs w0 ν (pre ++ cs) arr.toList) (_ : pre.length = pos) (_ : fillL ps pos cs = some r),
    ∃ arr', Instr.fill place arr qs = some arr' ∧ VRs w0 ν (pre ++ r) arr'.toList
  | [], [], _, pos, cs, r, pre, arr, hv, _, h => by
    simp [fillL] at h; subst h
    exact ⟨arr, rfl, hv⟩
  | (off, size, v) :: ps, (i, x) :: qs, hp, pos, cs, r, pre, arr, hv, hpre, h => by
    obtain ⟨hpl, hvx, hps⟩ := hp
    simp only [fillL] at h
    split at h
    · rename_i hc
      obtain ⟨hle, hsz⟩ := hc
      split at h
      · rename_i a c hta hdc
        split at h
        · rename_i r' hr
          simp at h; subst h
          obtain ⟨hla, rfl⟩ := takeX_eq.1 hta
          obtain ⟨hlc, rfl⟩ := dropX_eq.1 hdc
          have hcells := VR_cells hvx
          have hcl := VRs_length hcells
          rw [lenL_eq] at hsz
          have hxs : x.cells.size = size := by
            have : x.cells.toList.length = x.cells.size := by simp
            omega
          have hal : arr.toList.length = pre.length + cs.length := by rw [VRs_length hv]; simp
          have hal' : arr.size = pre.length + cs.length := by simpa using hal
          have hset := foldl_set x.cells.toList 0 arr off (by simp; omega)
          have harr : (x.cells.zipIdx.foldl (fun cs (c, j) => cs.setIfInBounds (off + j) c) arr) = ((x.cells.toList.zipIdx 0).foldl (fun cs (c, j) => cs.setIfInBounds (off + j) c) arr) := by
            rw [← Array.foldl_toList]; simp
          have hfill : Instr.fill place arr ((i, x) :: qs) = Instr.fill place (x.cells.zipIdx.foldl (fun cs (c, j) => cs.setIfInBounds (off + j) c) arr) qs := by
            simp only [Instr.fill, hpl]
            rw [if_neg]
            simp only [Bool.or_eq_true, decide_eq_true_eq, not_or]
            exact ⟨by simpa using hxs, by omega⟩
          rw [hfill, harr]
          refine fill_sim place hps (pos := off + size) (cs := cs.drop (off - pos + size)) (r := r') (pre := pre ++ cs.take (off - pos) ++ v.cells) (arr := _) ?_ (by simp; omega) hr |>.imp fun arr' h' => ⟨h'.1, ?_⟩
          · rw [hset]
            simp only [Nat.add_zero]
            refine VRs_append (VRs_append ?_ hcells) ?_
            · have := VRs_take hv off
              rw [List.take_append] at this
              rw [List.take_of_length_le (by omega)] at this
              rwa [hpre] at this
            · have hd := VRs_drop hv (off + x.cells.toList.length)
              rw [List.drop_append] at hd
              rw [List.drop_eq_nil_of_le (by omega), List.nil_append] at hd
              have : off + x.cells.toList.length - pre.length = off - pos + size := by simp; omega
              rwa [this] at hd
          · have := h'.2
            simpa [List.append_assoc] using this
        · simp at h
      · simp at h
    · simp at h
  | [], _ :: _, hp, _, _, _, _, _, _, _, _ => by simp [PartsR] at hp
  | _ :: _, [], hp, _, _, _, _, _, _, _, _ => by simp [PartsR] at hp

theorem mapM_pure {α β : Type} (f : α → Sem β) (g : α → β) : ∀ (l : List α), (∀ a ∈ l, ∀ w, (f a).run P w = .ok (g a) w) → (l.mapM f).run P w = .ok (l.map g) w
  | [], _ => by simp
  | a :: l, h => by
    rw [List.mapM_cons]
    simp only [Sem.run_bind, h a (List.mem_cons_self ..), Result.andThen_ok, mapM_pure f g l (fun b hb => h b (List.mem_cons_of_mem _ hb)), Sem.run_pure, List.map_cons]

theorem sim_build_arr (hrel : Rel w0 ν σ w) {t e : TypeId} {ti te : TI} {n : Nat} (ht : OkTI P t ti) (hti : ti.d = .arr n e) (he : OkTI P e te) {ps : List (Nat × Nat × AVal)} {qs : Array (Nat × Value)} (hp : PartsR w0 ν (fun i => some (i * te.size, te.size)) ps qs.toList) {cs : List AVal} (h : fillL ps 0 ti.zero = some cs) :
    Gives P w0 ν σ (.agg cs) (Instr.build t qs) w := by
  obtain ⟨d, hd, hdd⟩ := ht.und
  rw [hti] at hdd
  have := td_arr hdd; subst this
  obtain ⟨z, hz, hza⟩ := ht.zero w
  obtain ⟨arr', hf, hv⟩ := fill_sim (w0 := w0) (ν := ν) _ hp (pre := []) (by simpa using avals_VRs hza) rfl h
  refine .same hrel (x := .agg arr') (by simp only [VR]; exact ⟨arr'.toList, by simp, by simpa using hv⟩) ?_
  simp [Instr.build, hz, run_underlying hd, he.sizeOf, hf]

theorem sim_buildSlice (hrel : Rel w0 ν σ w) {t e : TypeId} {ti te : TI} {len : Nat} (ht : OkTI P t ti) (hti : ti.d = .slice e) (he : OkTI P e te) (hz : te.zero.length = te.size) (hs : 0 < te.size) (hl : len * te.size ≤ 16777216) {ps : List (Nat × Nat × AVal)} {qs : Array (Nat × Value)}
    (hp : PartsR w0 ν (fun i => some (i * te.size, te.size)) ps qs.toList) {cs : List AVal} (h : fillL ps 0 (rep te.zero len) = some cs) :
    Gives P w0 ν (σ.new (.cells true e cs)) (.slice σ.next 0 len te.size) (Instr.buildSlice t len qs) w := by
  obtain ⟨d, hd, hdd⟩ := ht.und
  rw [hti] at hdd
  have := td_slice hdd; subst this
  obtain ⟨z, hzr, hza⟩ := he.zero w
  have hvz := avals_VRs (w0 := w0) (ν := ν) hza
  have hzl := VRs_length hvz
  have hzs : z.cells.size = te.size := by simp at hzl; omega
  let zz : Array Value := if len * te.size = 0 then #[] else z.cells
  let arr : Array Value := (Array.range (len * te.size)).map (zz[· % zz.size]!)
  have hvr : VRs w0 ν (rep te.zero len) arr.toList := by
    rw [VRs_iff]
    refine ⟨by simp [arr, rep_length, hz], fun j a v ha hv => ?_⟩
    have hj : j < len * te.size := by
      have := (List.getElem?_eq_some_iff.1 ha).1
      rwa [rep_length, hz] at this
    rw [rep_get _ (by omega) _ _ (by rw [hz]; exact hj), hz] at ha
    obtain ⟨u, hu, hau⟩ := VRs_get hvz ha
    have hne : ¬ (len * te.size = 0) := by omega
    have hzz : zz = z.cells := by simp [zz, hne]
    have hjm : j % te.size < z.cells.size := by rw [hzs]; exact Nat.mod_lt _ hs
    have hu' : z.cells[j % te.size]? = some u := by simpa using hu
    have : arr[j]? = some (z.cells[j % z.cells.size]!) := by
      simp only [arr, hzz]
      rw [Array.getElem?_map, Array.getElem?_range, if_pos hj]
      rfl
    have hv' : arr[j]? = some v := by simpa using hv
    rw [this, hzs, getElem!_pos z.cells _ hjm] at hv'
    rw [getElem?_pos z.cells _ hjm] at hu'
    rw [hu'] at hv'; cases hv'
    exact hau
  obtain ⟨arr', hf, hv⟩ := fill_sim (w0 := w0) (ν := ν) _ hp (pre := []) (arr := arr) (by simpa using hvr) rfl h
  have hv' : VRs w0 ν cs arr'.toList := by simpa using hv
  have hsz : arr'.size = len * te.size := by
    have h1 : arr'.toList.length = cs.length := VRs_length hv'
    have : ∀ (ps : List (Nat × Nat × AVal)) (pos : Nat) (cs r : List AVal), fillL ps pos cs = some r → r.length = cs.length := by
      intro ps
      induction ps with
      | nil => intro pos cs r h; simp [fillL] at h; rw [h]
      | cons p ps ih =>
        obtain ⟨off, size, v⟩ := p
        intro pos cs r h
        simp only [fillL] at h
        split at h
        · rename_i hc
          split at h
          · rename_i a c hta hdc
            split at h
            · rename_i r' hr
              simp at h; subst h
              obtain ⟨hla, rfl⟩ := takeX_eq.1 hta
              obtain ⟨hlc, rfl⟩ := dropX_eq.1 hdc
              have := ih _ _ _ hr
              rw [lenL_eq] at hc
              simp at this ⊢; omega
            · simp at h
          · simp at h
        · simp at h
    have := this _ _ _ _ h
    rw [rep_length, hz] at this
    simp at h1; omega
  refine ⟨_, .slice (some ⟨w.heap.size, 0, none⟩) len len, w.alloc (.cells arr' e), List.prefix_append _ _, VR_newslice hrel len len te.size arr'.size (Nat.le_refl _) (by omega) hs, hrel.new_vals e arr' cs hv', ?_⟩
  have hno : ¬ (2 ^ 24 < len * te.size) := by omega
  by_cases hzero : len * te.size = 0
  · have hzz : zz = #[] := by simp [zz, hzero]
    have harr : arr = (Array.range 0).map ((#[] : Array Value)[· % 0]!) := by simp [arr, hzz, hzero]
    rw [harr] at hf
    simp only [Instr.buildSlice, Sem.run_bind, run_underlying hd, Result.andThen_ok, he.sizeOf]
    simp only [gt_iff_lt, hzero, Nat.not_lt_zero, if_false, Sem.run_pure, Sem.run_bind, Result.andThen_ok, if_true]
    simp only [List.size_toArray, List.length_nil, hf, newRow, Sem.run_bind, run_newObj, Result.andThen_ok, Sem.run_pure]
    rfl
  · have hzz : zz = z.cells := by simp [zz, hzero]
    have harr : arr = (Array.range (len * te.size)).map (z.cells[· % z.cells.size]!) := by simp [arr, hzz]
    rw [harr] at hf
    simp only [Instr.buildSlice, Sem.run_bind, run_underlying hd, Result.andThen_ok, he.sizeOf]
    simp only [gt_iff_lt, hno, if_false, Sem.run_pure, Sem.run_bind, Result.andThen_ok, hzero, hzr, hf, newRow, run_newObj]
    rfl
end
end Go.Ab

namespace Go.Ab
open Go Go.RowKit
section
variable {P : Program} {w0 w : World} {ν : List Place} {σ : St}

noncomputable def sizeAt (S : Stat) (t : TypeId) : Nat := match S.tt.get (path t) with | some ti => ti.size | none => 0

theorem run_places (S : Stat) (hS : OKS P S) : ∀ (fs : List Field), allTI S (fs.map fun f => (f.offset, f.type)) = true →
    (fs.mapM fun f => (do pure (f.offset, ← sizeOf f.type) : Sem (Nat × Nat))).run P w = .ok (fs.map fun f => (f.offset, sizeAt S f.type)) w
  | [], _ => by simp
  | f :: fs, h => by
    simp only [List.map_cons, allTI, Bool.and_eq_true] at h
    have hsz : (sizeOf f.type).run P w = .ok (sizeAt S f.type) w := by
      unfold withTI at h
      split at h
      · rename_i ti hti
        simp only [sizeAt, hti]
        exact (hS _ _ hti).sizeOf w
      · simp at h
    rw [List.mapM_cons]
    simp only [Sem.run_bind, hsz, Result.andThen_ok, Sem.run_pure, run_places S hS fs h.2, List.map_cons]

theorem PartsR_mono {p q : Nat → Option (Nat × Nat)} (hpq : ∀ i x, p i = some x → q i = some x) : ∀ {ps : List (Nat × Nat × AVal)} {qs : List (Nat × Value)}, PartsR w0 ν p ps qs → PartsR w0 ν q ps qs
  | [], [], _ => trivial
  | (_, _, _) :: ps, (_, _) :: qs, ⟨h1, h2, h3⟩ => ⟨hpq _ _ h1, h2, PartsR_mono hpq h3⟩
  | [], _ :: _, h => h.elim
  | _ :: _, [], h => h.elim

theorem sim_build_struct (hrel : Rel w0 ν σ w) (S : Stat) (hS : OKS P S) {t : TypeId} {ti : TI} {fs : List (Nat × TypeId)} (ht : OkTI P t ti) (hti : ti.d = .struct fs) (hall : allTI S fs = true) {ps : List (Nat × Nat × AVal)} {qs : Array (Nat × Value)} (hp : PartsR w0 ν (fieldPlaceOf S fs) ps qs.toList)
    {cs : List AVal} (h : fillL ps 0 ti.zero = some cs) : Gives P w0 ν σ (.agg cs) (Instr.build t qs) w := by
  obtain ⟨d, hd, hdd⟩ := ht.und
  rw [hti] at hdd
  obtain ⟨fa, rfl, hfa⟩ := td_struct hdd
  obtain ⟨z, hz, hza⟩ := ht.zero w
  let places : Array (Nat × Nat) := (fa.toList.map fun f => (f.offset, sizeAt S f.type)).toArray
  have hp' : PartsR w0 ν (places[·]?) ps qs.toList := by
    refine PartsR_mono ?_ hp
    intro i x hx
    unfold fieldPlaceOf at hx
    split at hx
    · rename_i off ft hf
      split at hx
      · rename_i tf htf
        simp at hx; subst hx
        rw [hfa] at hf
        simp only [List.getElem?_map, Option.map_eq_some_iff] at hf
        obtain ⟨fld, hfld, heq⟩ := hf
        simp only [Prod.mk.injEq] at heq
        obtain ⟨rfl, rfl⟩ := heq
        have hfld' : fa[i]? = some fld := by simpa using hfld
        simp [places, hfld', sizeAt, htf]
      · simp at hx
    · simp at hx
  obtain ⟨arr', hf, hv⟩ := fill_sim (w0 := w0) (ν := ν) _ hp' (pre := []) (by simpa using avals_VRs hza) rfl h
  have hm : (fa.mapM fun f => (do pure (f.offset, ← sizeOf f.type) : Sem (Nat × Nat))).run P w = .ok places w := by
    rw [Array.mapM_eq_mapM_toList]
    simp only [Sem.run_map]
    rw [run_places S hS fa.toList (by rw [← hfa]; exact hall)]
    rfl
  refine .same hrel (x := .agg arr') (by simp only [VR]; exact ⟨arr'.toList, by simp, by simpa using hv⟩) ?_
  simp only [Instr.build, Sem.run_bind, hz, Result.andThen_ok, run_underlying hd, hm, hf, Sem.run_pure]

/-! ## unsafe -/
theorem sim_sliceData (hrel : Rel w0 ν σ w) {xv r : AVal} {x : Value} (hx : VR w0 ν xv x) (T : Tab) (env : Env) {xo : Opd} (hxo : xo.ev T env = xv) {σ' : St} (h : opSliceData T xo env σ = some (r, σ')) (ts : Array TypeId) (ty : TypeId) :
    Gives P w0 ν σ' r (Builtin.unsafeSliceData_ ts ty #[x]) w := by
  unfold opSliceData at h
  rw [hxo] at h
  split at h
  · simp at h; obtain ⟨rfl, rfl⟩ := h
    simp only [VR] at hx; subst hx
    exact .same hrel (x := .pointer none) (by simp [VR]) rfl
  · rename_i b i n s
    simp at h; obtain ⟨rfl, rfl⟩ := h
    simp only [VR] at hx
    obtain ⟨p, a, cap, hp, rfl, hn, hs0, hext, ha⟩ := hx
    rcases ha with ha | rfl
    · omega
    · exact .same hrel (x := .pointer (some ⟨p.block, p.off + i, none⟩)) (by simp only [VR]; exact ⟨p, hp, rfl⟩) (Lib.run_unsafeSliceData_row w ts ty _ _ cap (by omega))
  · simp at h

theorem liesAt_row {e : TypeId} (hc : P.cellsOf e = 1) (count off n : Nat) (hn : off + n ≤ count) : liesAt P P.depth e count off e n = true := by
  have hd : P.depth = (2 * (P.types.size + Made.depth) + 1) + 1 := rfl
  rw [hd]
  simp only [liesAt, Bool.or_eq_true]
  left
  rw [hd]
  simp [rowAt, hc, hn, sameLayout, Nat.mod_one]

theorem unsafeString_some (pt it ty : TypeId) (a : Addr) (v : Value) : ∃ m1 : String, Builtin.unsafeString_ #[pt, it] ty #[.pointer (some a), v] =
      (do
        let n ← asInt v
        if n < 0 then runtimePanic (.error m1)
        if n > IntKind.i64.max then unsupported (.unsafePointer "String: a length above the largest int")
        if n = 0 then pure (.string .empty)
        else if ← variablesAt a (← elemOf pt) n.toNat then do
          let s ← loadBytes a .empty n.toNat
          freeze a n.toNat
          pure (.string s)
        else unsupported (.unsafePointer "String: not so many bytes at ptr")) := ⟨_, rfl⟩
theorem unsafeString_none (pt it ty : TypeId) (v : Value) : ∃ m1 m2 : String, Builtin.unsafeString_ #[pt, it] ty #[.pointer none, v] =
      (do
        let n ← asInt v
        if n < 0 then runtimePanic (.error m1)
        if n > IntKind.i64.max then unsupported (.unsafePointer "String: a length above the largest int")
        if n = 0 then pure (.string .empty)
        else runtimePanic (.error m2)) := ⟨_, _, rfl⟩

theorem sim_unsafeStr (hrel : Rel w0 ν σ w) {pt e : TypeId} {tp te : TI} (hpt : OkTI P pt tp) (htp : tp.d = .ptr e) (he : OkTI P e te) (hte : te.size = 1) {xv nv r : AVal} {x n : Value} (hx : VR w0 ν xv x) (hn : VR w0 ν nv n) (T : Tab) (env : Env) {xo no : Opd} (hxo : xo.ev T env = xv) (hno : no.ev T env = nv)
    {σ' : St} (h : opUnsafeStr T false e xo no env σ = some (r, σ')) (it ty : TypeId) : Gives P w0 ν σ' r (Builtin.unsafeString_ #[pt, it] ty #[x, n]) w := by
  obtain ⟨d, hd, hdd⟩ := hpt.und
  rw [htp] at hdd
  have := td_ptr hdd; subst this
  obtain ⟨ie, ze, hie, hsz, _⟩ := he.info
  have hcell1 : P.cellsOf e = 1 := by simp [Program.cellsOf, hie, hsz, hte]
  unfold opUnsafeStr at h
  simp only [Bool.false_eq_true, if_false, hxo, hno] at h
  have hmax : IntKind.i64.max = 9223372036854775807 := rfl
  split at h
  · rename_i k
    simp at h; obtain ⟨rfl, rfl⟩ := h
    simp only [VR] at hx hn; subst hx; subst hn
    refine .same hrel (x := .string .empty) (by simp only [VR]; exact ⟨_, rfl, rfl⟩) ?_
    rw [(unsafeString_none _ _ _ _).choose_spec.choose_spec]
    simp [asInt, asIntOf, hmax]
  · rename_i k b i
    simp at h; obtain ⟨rfl, rfl⟩ := h
    simp only [VR] at hx hn; subst hn
    obtain ⟨p, hp, rfl⟩ := hx
    refine .same hrel (x := .string .empty) (by simp only [VR]; exact ⟨_, rfl, rfl⟩) ?_
    rw [(unsafeString_some _ _ _ _ _).choose_spec]
    simp [asInt, asIntOf, hmax]
  · rename_i k m b i
    split at h
    · rename_i f e' cs hb
      split at h
      · rename_i hee
        obtain ⟨hee, hbg⟩ := hee; subst hee
        split at h
        · rename_i l hsub
          split at h
          · rename_i bs hbs
            rw [St.killK_eq] at h
            simp at h; obtain ⟨rfl, rfl⟩ := h
            simp only [VR] at hx hn; subst hn
            obtain ⟨p, hp, rfl⟩ := hx
            obtain ⟨hle, rfl⟩ := sub_eq.1 hsub
            obtain ⟨q, hq, hq0, ho⟩ := hrel.live b _ hb
            rw [hp] at hq; cases hq
            obtain ⟨hcl, c, fr, hc, hce, hfr, hcv, hfix⟩ := ho
            have hat := ((hrel.cellsAt hb hp).drop i).take (m + 1)
            obtain ⟨vs, hvs, hcs⟩ := hat.vals
            obtain ⟨ns, rfl, rfl⟩ := bytesOfCells_vals hbs hvs
            have hnl : ns.length = m + 1 := by
              have := VRs_length hvs
              simp at this; omega
            let ub : List UInt8 := ns.map fun n => UInt8.ofNat n.toNat
            have hub : ∀ (j : Nat) (u : UInt8), ub[j]? = some u → ∃ n : Int, w.cell? ⟨p.block, p.off + i + j, none⟩ = some (.int .u8 n) ∧ u = n.toNat.toUInt8 := by
              intro j u hu
              simp only [ub, List.getElem?_map, Option.map_eq_some_iff] at hu
              obtain ⟨n, hn, rfl⟩ := hu
              exact ⟨n, hcs j _ (by simp [hn]), rfl⟩
            have hload : ∀ (l : List UInt8) (k : Nat) (acc : ByteArray), (∀ (j : Nat) (u : UInt8), l[j]? = some u → ∃ n : Int, w.cell? ⟨p.block, p.off + i + k + j, none⟩ = some (.int .u8 n) ∧ u = n.toNat.toUInt8) →
                (loadBytes ⟨p.block, p.off + i + k, none⟩ acc l.length).run P w = .ok ⟨acc.data ++ l.toArray⟩ w := by
              intro l
              induction l with
              | nil => intro k acc _; simp [loadBytes]
              | cons u l ih =>
                intro k acc hh
                obtain ⟨n, hn, hun⟩ := hh 0 u rfl
                simp only [Nat.add_zero] at hn
                have := ih (k + 1) (acc.push u) (fun j y hy => by
                  obtain ⟨n', h1, h2⟩ := hh (j + 1) y (by simpa using hy)
                  exact ⟨n', by rw [show p.off + i + (k + 1) + j = p.off + i + k + (j + 1) by omega]; exact h1, h2⟩)
                simp only [List.length_cons, loadBytes, Sem.run_bind, run_load, hn, Result.andThen, add_plain]
                rw [← hun, show p.off + i + k + 1 = p.off + i + (k + 1) by omega, this]
                congr 1
                apply ByteArray.ext
                simp [ByteArray.push]
            have hl := hload ub 0 .empty (by simpa using hub)
            have hubl : ub.length = m + 1 := by simp [ub, hnl]
            rw [hubl] at hl
            simp only [Nat.add_zero] at hl
            have hsh : w.shape? p.block = some (e, c.size) := by simp [World.shape?, hc]
            have hlies := liesAt_row (P := P) hcell1 (c.size / P.cellsOf e) (p.off + i) (m + 1) (by rw [hcell1]; simp at hle ⊢; omega)
            refine ⟨ν, .string ⟨ByteArray.empty.data ++ ub.toArray⟩, w.freeze ⟨p.block, p.off + i, none⟩ (m + 1), List.prefix_refl _, ?_, ?_, ?_⟩
            · simp only [VR]
              refine ⟨_, rfl, ?_⟩
              simp [bytesOf, ub]
            · -- the block is forgotten: what happens to it counts no more
              have hk := hrel.kill b
              have hblk : ∀ k', k' ≠ p.block → (w.freeze ⟨p.block, p.off + i, none⟩ (m + 1)).heap[k']? = w.heap[k']? := by
                intro k' hk'
                simp [World.freeze, Array.getElem?_modify, Ne.symm hk']
              have hbl := Lib.below_freeze (Below.refl w0.heap.size w) (p := ⟨p.block, p.off + i, none⟩) hq0 (m + 1)
              refine ⟨hk.below.trans hbl, hk.next, fun c' o hc' => ?_, hk.apart⟩
              obtain ⟨q, hq, hq0', hqo⟩ := hk.live c' o hc'
              refine ⟨q, hq, hq0', hqo.mono (List.prefix_refl _) (hblk _ ?_)⟩
              have hne : c' ≠ b := by
                intro e'; subst e'; rw [St.get_kill_same] at hc'; simp at hc'
              rw [St.get_kill_other _ hne] at hc'
              exact hrel.apart c' b o _ q p hc' hb hne hq hp
            · have hneg : ¬ ((m : Int) + 1 < 0) := by omega
              have hnz : ¬ ((m : Int) + 1 = 0) := by omega
              have hbg' : ¬ ((9223372036854775807 : Int) < (m : Int) + 1) := by
                omega
              have htn : ((m : Int) + 1).toNat = m + 1 := by omega
              rw [(unsafeString_some _ _ _ _ _).choose_spec]
              simp [asInt, asIntOf, hmax, hneg, hnz, hbg', htn, variablesAt, hsh, elemOf, run_underlying hd, hlies, hl]
          · simp at h
        · simp at h
      · simp at h
    · simp at h
  · simp at h
end
end Go.Ab
