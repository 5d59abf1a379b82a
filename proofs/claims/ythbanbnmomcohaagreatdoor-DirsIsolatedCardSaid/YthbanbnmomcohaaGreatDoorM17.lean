/- The arguments of the laws: trees as the rows read them. -/
import Derived.Test.YthbanbnmomcohaaGreatDoorM9
import Derived.Test.YthbanbnmomcohaaGreatDoorM15
import Derived.Test.YthbanbnmomcohaaGreatDoorM16
import Derived.Test.YthbanbnmomcohaaGreatDoorM12
import Derived.KernelRfl
set_option linter.all false
set_option linter.unusedSimpArgs false
set_option maxRecDepth 10000
noncomputable section
namespace Go.Ab.Dirs
open Go Go.Ab Go.Proofs Go.RowKit

theorem tt9 : SS.tt.get (path 9) = some ⟨.str, 1, 16, [.str []]⟩ := by kernel_rfl
theorem tt3 : SS.tt.get (path 3) = some ⟨.int .i64, 1, 8, [.int .i64 0]⟩ := by kernel_rfl
theorem tt5 : SS.tt.get (path 5) = some ⟨.int .u8, 1, 1, [.int .u8 0]⟩ := by kernel_rfl
theorem tt34 : SS.tt.get (path 34) = some ⟨.slice 3, 1, 24, [.nils]⟩ := by kernel_rfl
theorem tt33 : SS.tt.get (path 33) = some ⟨.slice 39, 1, 24, [.nils]⟩ := by kernel_rfl
theorem tt39 : SS.tt.get (path 39) = some ⟨.struct [(0, 9), (1, 9)], 2, 32, [.str [], .str []]⟩ := by kernel_rfl
theorem tt36 : SS.tt.get (path 36) = some ⟨.struct [(0, 5), (1, 9), (2, 33), (3, 9), (4, 3), (5, 34)], 6, 96, [.int .u8 0, .str [], .nils, .str [], .int .i64 0, .nils]⟩ := by kernel_rfl
theorem tt23 : SS.tt.get (path 23) = some ⟨.slice 36, 1, 24, [.nils]⟩ := by kernel_rfl

section
variable {H : Type} {enc : TypeId × Value → H} {sp : Nat → Bool} {held : Bool} {w : World}

def bN (bs : List UInt8) : List Nat := bs.map (·.toNat)

theorem trod_str {fuel : Nat} {cs : List Value} {d : DataW H} {p : List MemPlace} (h : DataW.trod enc Tryz.prog w 0 sp held fuel 9 cs = some (d, p)) : ∃ bs, d = .lit (.string bs) ∧ bs.length ≤ maxLen := by
  cases fuel with
  | zero => simp [DataW.trod] at h
  | succ fuel =>
    have hu := Tryz.underlying9
    rcases cs with _ | ⟨c, _ | ⟨c2, cs⟩⟩
    · simp [DataW.trod, hu] at h
    · cases c <;> simp [DataW.trod, hu] at h
      rename_i x
      exact ⟨_, h.2.1.symm, by simpa using h.1⟩
    · cases c <;> simp [DataW.trod, hu] at h

theorem trod_int {t : TypeId} {k : IntKind} (hu : Tryz.prog.underlying t = some (.int k)) {fuel : Nat} {cs : List Value} {d : DataW H} {p : List MemPlace} (h : DataW.trod enc Tryz.prog w 0 sp held fuel t cs = some (d, p)) : ∃ n, d = .lit (.int k n) ∧ (Lit.int k n).wf = true := by
  cases fuel with
  | zero => simp [DataW.trod] at h
  | succ fuel =>
    rcases cs with _ | ⟨c, _ | ⟨c2, cs⟩⟩
    · simp [DataW.trod, hu] at h
    · cases c <;> simp [DataW.trod, hu] at h
      rename_i k' n
      obtain ⟨⟨rfl, h2⟩, rfl, _⟩ := h
      exact ⟨n, rfl, h2⟩
    · cases c <;> simp [DataW.trod, hu] at h

theorem trod_slice {t e : TypeId} (hu : Tryz.prog.underlying t = some (.slice e)) {fuel : Nat} {cs : List Value} {d : DataW H} {p : List MemPlace} (h : DataW.trod enc Tryz.prog w 0 sp held fuel t cs = some (d, p)) :
    d = .nil ∨ ∃ es rest, d = .slice es rest ∧ es.length ≤ maxLen ∧ ∀ x ∈ es, ∃ fuel' cs' p', DataW.trod enc Tryz.prog w 0 sp held fuel' e cs' = some (x, p') := by
  cases fuel with
  | zero => simp [DataW.trod] at h
  | succ fuel =>
    rcases cs with _ | ⟨c, _ | ⟨c2, cs⟩⟩
    · simp [DataW.trod, hu] at h
    · cases c with
      | slice o len cap =>
        cases o with
        | none =>
          cases len <;> cases cap <;> simp [DataW.trod, hu] at h
          exact .inl h.1.symm
        | some a =>
          simp only [DataW.trod, hu] at h
          split at h
          · rename_i hb
            obtain ⟨els, hels, h⟩ := Option.bind_eq_some_iff.1 h
            obtain ⟨rest, _, h⟩ := Option.map_eq_some_iff.1 h
            simp only [Prod.mk.injEq] at h
            obtain ⟨rfl, -⟩ := h
            have hlen := Lib.mapM_length hels
            simp only [List.length_range] at hlen
            refine .inr ⟨els.map (·.1), _, rfl, (by rw [List.length_map]; omega), fun x hx => ?_⟩
            obtain ⟨y, hy, rfl⟩ := List.mem_map.1 hx
            obtain ⟨i, hi, rfl⟩ := List.getElem_of_mem hy
            have hil : i < len := by omega
            obtain ⟨b, hb1, hb2⟩ := Lib.mapM_at hels i i (by simp [hil])
            rw [List.getElem?_eq_getElem hi] at hb1
            cases hb1
            obtain ⟨cs', _, ht⟩ := Option.bind_eq_some_iff.1 hb2
            exact ⟨fuel, cs', els[i].2, ht⟩
          · simp at h
      | _ => simp [DataW.trod, hu] at h
    · cases c <;> simp [DataW.trod, hu] at h

theorem trod_struct {t : TypeId} {fa : Array Field} (hu : Tryz.prog.underlying t = some (.struct fa)) {fuel : Nat} {cs : List Value} {d : DataW H} {p : List MemPlace} (h : DataW.trod enc Tryz.prog w 0 sp held fuel t cs = some (d, p)) :
    ∃ ds, d = .agg ds ∧ ds.length = fa.size ∧ ∀ (i : Nat) (f : Field) (x : DataW H), fa[i]? = some f → ds[i]? = some x → ∃ fuel' cs' p', DataW.trod enc Tryz.prog w 0 sp held fuel' f.type cs' = some (x, p') := by
  cases fuel with
  | zero => simp [DataW.trod] at h
  | succ fuel =>
    have h' : (if cs.length = Tryz.prog.cellsOf t then (fa.toList.mapM fun f => DataW.trod enc Tryz.prog w 0 sp held fuel f.type ((cs.drop f.offset).take (Tryz.prog.cellsOf f.type))).map fun xs => (DataW.agg (xs.map (·.1)), xs.flatMap (·.2)) else none) = some (d, p) := by
      rw [← h]; simp only [DataW.trod, hu]
    split at h'
    · obtain ⟨xs, hxs, hx⟩ := Option.map_eq_some_iff.1 h'
      simp only [Prod.mk.injEq] at hx
      obtain ⟨rfl, -⟩ := hx
      have hlen := Lib.mapM_length hxs
      refine ⟨_, rfl, by simpa using hlen, fun i f x hf hx => ?_⟩
      rw [List.getElem?_map, Option.map_eq_some_iff] at hx
      obtain ⟨y, hy, rfl⟩ := hx
      obtain ⟨b, hb1, hb2⟩ := Lib.mapM_at hxs i f (by simpa using hf)
      rw [hy] at hb1; cases hb1
      exact ⟨fuel, _, y.2, hb2⟩
    · simp at h'

inductive All2 {α β : Type} (R : α → β → Prop) : List α → List β → Prop where
  | nil : All2 R [] []
  | cons {a b l m} (h : R a b) (ht : All2 R l m) : All2 R (a :: l) (b :: m)

def AttrOf (d : DataW H) (a : AttrD) : Prop := ∃ b1 b2, d = .agg [.lit (.string b1), .lit (.string b2)] ∧ a = (bN b1, bN b2) ∧ b1.length ≤ maxLen ∧ b2.length ≤ maxLen
inductive RowOf {α : Type} (f : DataW H → α → Prop) : DataW H → List α → Prop where
  | nil : RowOf f .nil []
  | slice {es rest l} (hl : es.length ≤ maxLen) (h : All2 f es l) : RowOf f (.slice es rest) l
def IntOf (d : DataW H) (n : Int) : Prop := d = .lit (.int .i64 n)
def NodeOf (d : DataW H) (n : ND) : Prop := ∃ k nm ad dt kd, d = .agg [.lit (.int .u8 k), .lit (.string nm), ad, .lit (.string dt), .lit (.int .i64 n.up), kd] ∧ k = (n.kind : Int) ∧ n.name = bN nm ∧ n.data = bN dt ∧ nm.length ≤ maxLen ∧ dt.length ≤ maxLen ∧ RowOf AttrOf ad n.attrs ∧ RowOf IntOf kd n.kids

theorem forall₂_of {α β : Type} {R : α → β → Prop} : ∀ {l : List α}, (∀ x ∈ l, ∃ y, R x y) → ∃ m, All2 R l m
  | [], _ => ⟨[], .nil⟩
  | x :: l, h => by
    obtain ⟨y, hy⟩ := h x (List.mem_cons_self)
    obtain ⟨m, hm⟩ := forall₂_of fun z hz => h z (List.mem_cons_of_mem _ hz)
    exact ⟨y :: m, .cons hy hm⟩

theorem row_of {α : Type} {f : DataW H → α → Prop} {t e : TypeId} (hu : Tryz.prog.underlying t = some (.slice e)) {fuel : Nat} {cs : List Value} {d : DataW H} {p : List MemPlace}
    (hf : ∀ fuel cs d p, DataW.trod enc Tryz.prog w 0 sp held fuel e cs = some (d, p) → ∃ a, f d a) (h : DataW.trod enc Tryz.prog w 0 sp held fuel t cs = some (d, p)) : ∃ l, RowOf f d l := by
  rcases trod_slice hu h with rfl | ⟨es, rest, rfl, hl, hx⟩
  · exact ⟨[], .nil⟩
  · obtain ⟨m, hm⟩ := forall₂_of (R := f) (l := es) fun x hxm => by
      obtain ⟨f', cs', p', h'⟩ := hx x hxm
      exact hf _ _ _ _ h'
    exact ⟨m, .slice hl hm⟩

theorem attr_of {fuel : Nat} {cs : List Value} {d : DataW H} {p : List MemPlace} (h : DataW.trod enc Tryz.prog w 0 sp held fuel 39 cs = some (d, p)) : ∃ a, AttrOf d a := by
  obtain ⟨ds, rfl, hl, hx⟩ := trod_struct Tryz.underlying39 h
  obtain ⟨d0, d1, rfl⟩ : ∃ d0 d1, ds = [d0, d1] := by
    match ds, hl with
    | [d0, d1], _ => exact ⟨d0, d1, rfl⟩
  obtain ⟨_, _, _, h0⟩ := hx 0 _ d0 rfl rfl
  obtain ⟨_, _, _, h1⟩ := hx 1 _ d1 rfl rfl
  obtain ⟨b0, rfl, l0⟩ := trod_str h0
  obtain ⟨b1, rfl, l1⟩ := trod_str h1
  exact ⟨_, b0, b1, rfl, rfl, l0, l1⟩

theorem node_of {fuel : Nat} {cs : List Value} {d : DataW H} {p : List MemPlace} (h : DataW.trod enc Tryz.prog w 0 sp held fuel 36 cs = some (d, p)) : ∃ n, NodeOf d n := by
  obtain ⟨ds, rfl, hl, hx⟩ := trod_struct Tryz.underlying36 h
  obtain ⟨d0, d1, d2, d3, d4, d5, rfl⟩ : ∃ d0 d1 d2 d3 d4 d5, ds = [d0, d1, d2, d3, d4, d5] := by
    match ds, hl with
    | [d0, d1, d2, d3, d4, d5], _ => exact ⟨d0, d1, d2, d3, d4, d5, rfl⟩
  obtain ⟨_, _, _, h0⟩ := hx 0 _ d0 rfl rfl
  obtain ⟨_, _, _, h1⟩ := hx 1 _ d1 rfl rfl
  obtain ⟨_, _, _, h2⟩ := hx 2 _ d2 rfl rfl
  obtain ⟨_, _, _, h3⟩ := hx 3 _ d3 rfl rfl
  obtain ⟨_, _, _, h4⟩ := hx 4 _ d4 rfl rfl
  obtain ⟨_, _, _, h5⟩ := hx 5 _ d5 rfl rfl
  obtain ⟨k, rfl, wk⟩ := trod_int Tryz.underlying5 h0
  obtain ⟨b1, rfl, l1⟩ := trod_str h1
  obtain ⟨b3, rfl, l3⟩ := trod_str h3
  obtain ⟨u, rfl, -⟩ := trod_int Tryz.underlying3 h4
  obtain ⟨al, hal⟩ := row_of (f := AttrOf) Tryz.underlying33 (fun _ _ _ _ h => attr_of h) h2
  obtain ⟨kl, hkl⟩ := row_of (f := IntOf) Tryz.underlying34 (fun _ _ _ _ h => by
    obtain ⟨n, rfl, -⟩ := trod_int Tryz.underlying3 h
    exact ⟨n, rfl⟩) h5
  have hk : 0 ≤ k := by
    simp only [Lit.wf, Bool.and_eq_true, decide_eq_true_eq] at wk
    have hm : IntKind.min .u8 = 0 := by kernel_rfl
    omega
  exact ⟨⟨k.toNat, bN b1, al, bN b3, u, kl⟩, k, b1, d2, b3, d5, rfl, by simp; omega, rfl, rfl, l1, l3, hal, hkl⟩

theorem tree_of {fuel : Nat} {cs : List Value} {d : DataW H} {p : List MemPlace} (h : DataW.trod enc Tryz.prog w 0 sp held fuel 23 cs = some (d, p)) : ∃ t, RowOf NodeOf d t := row_of Tryz.underlying23 (fun _ _ _ _ h => node_of h) h
end
end Go.Ab.Dirs
end

namespace Go.Ab.Dirs
open Go Go.Ab
set_option maxRecDepth 100000
noncomputable section
/- 5 selvedge/selvedgelaw10.DirsFirst -/
theorem fn5 : (TS).fn.get (path 5) = some ⟨2, [.tmp (path 4)], c5⟩ := by kernel_rfl
/- 9 selvedge/selvedgekit.Size -/
theorem fn9 : (TS).fn.get (path 9) = some ⟨2, [.tmp (path 4)], c9⟩ := by kernel_rfl
/- 13 selvedge/tree.Right -/
theorem fn13 : (TS).fn.get (path 13) = some ⟨1, [.tmp (path 2)], c13⟩ := by kernel_rfl
/- 14 selvedge/selvedgekit.Pick -/
theorem fn14 : (TS).fn.get (path 14) = some ⟨2, [.tmp (path 4)], c14⟩ := by kernel_rfl
/- 15 selvedge/dirs.State -/
theorem fn15 : (TS).fn.get (path 15) = some ⟨2, [.tmp (path 4)], c15⟩ := by kernel_rfl
/- 16 selvedge/dirs.Scan -/
theorem fn16 : (TS).fn.get (path 16) = some ⟨2, [.tmp (path 4), .tmp (path 5)], c16⟩ := by kernel_rfl
/- 26 selvedge/tree.fits -/
theorem fn26 : (TS).fn.get (path 26) = some ⟨3, [.tmp (path 6)], c26⟩ := by kernel_rfl
/- 27 selvedge/dirs.element -/
theorem fn27 : (TS).fn.get (path 27) = some ⟨2, [.tmp (path 4)], c27⟩ := by kernel_rfl
/- 28 selvedge/dirs.state -/
theorem fn28 : (TS).fn.get (path 28) = some ⟨1, [.tmp (path 2)], c28⟩ := by kernel_rfl
/- 29 selvedge/dirs.scan -/
theorem fn29 : (TS).fn.get (path 29) = some ⟨2, [.cell (path 4) none, .cell (path 5) none], c29⟩ := by kernel_rfl
/- 40 selvedge/tree.Kind -/
theorem fn40 : (TS).fn.get (path 40) = some ⟨1, [.tmp (path 2)], c40⟩ := by kernel_rfl
/- 41 slices.Index[[]int,int] -/
theorem fn41 : (TS).fn.get (path 41) = some ⟨2, [.tmp (path 4)], c41⟩ := by kernel_rfl
/- 42 selvedge/tree.well -/
theorem fn42 : (TS).fn.get (path 42) = some ⟨1, [.tmp (path 2)], c42⟩ := by kernel_rfl
/- 43 selvedge/tree.attrs -/
theorem fn43 : (TS).fn.get (path 43) = some ⟨1, [.tmp (path 2)], c43⟩ := by kernel_rfl
/- 44 selvedge/tree.nested -/
theorem fn44 : (TS).fn.get (path 44) = some ⟨3, [.tmp (path 6)], c44⟩ := by kernel_rfl
/- 45 selvedge/dirs.same -/
theorem fn45 : (TS).fn.get (path 45) = some ⟨2, [.tmp (path 4)], c45⟩ := by kernel_rfl
/- 46 selvedge/dirs.scan$1 -/
theorem fn46 : (TS).fn.get (path 46) = some ⟨5, [], c46⟩ := by kernel_rfl
/- 47 selvedge/props.Class -/
theorem fn47 : (TS).fn.get (path 47) = some ⟨1, [.tmp (path 2)], c47⟩ := by kernel_rfl
/- 59 strings.IndexByte -/
theorem fn59 : (TS).fn.get (path 59) = some ⟨2, [.tmp (path 4)], c59⟩ := by kernel_rfl
/- 64 unicode/utf8.ValidString -/
theorem fn64 : (TS).fn.get (path 64) = some ⟨1, [.tmp (path 2)], c64⟩ := by kernel_rfl
/- 65 selvedge/tree.named -/
theorem fn65 : (TS).fn.get (path 65) = some ⟨1, [.tmp (path 2)], c65⟩ := by kernel_rfl
/- 66 slices.ContainsFunc[[]selvedge/api.Attr,selvedge/api.Attr] -/
theorem fn66 : (TS).fn.get (path 66) = some ⟨2, [.tmp (path 4)], c66⟩ := by kernel_rfl
/- 67 selvedge/tree.attrs$1 -/
theorem fn67 : (TS).fn.get (path 67) = some ⟨2, [.tmp (path 3)], c67⟩ := by kernel_rfl
/- 68 selvedge/tree.ends -/
theorem fn68 : (TS).fn.get (path 68) = some ⟨1, [.tmp (path 2)], c68⟩ := by kernel_rfl
/- 69 selvedge/tree.wall -/
theorem fn69 : (TS).fn.get (path 69) = some ⟨1, [.tmp (path 2)], c69⟩ := by kernel_rfl
/- 77 internal/stringslite.IndexByte -/
theorem fn77 : (TS).fn.get (path 77) = some ⟨2, [.tmp (path 4)], c77⟩ := by kernel_rfl
/- 92 unicode/utf8.word[string] -/
theorem fn92 : (TS).fn.get (path 92) = some ⟨1, [.tmp (path 2)], c92⟩ := by kernel_rfl
/- 93 slices.IndexFunc[[]selvedge/api.Attr,selvedge/api.Attr] -/
theorem fn93 : (TS).fn.get (path 93) = some ⟨2, [.tmp (path 4)], c93⟩ := by kernel_rfl
end
end Go.Ab.Dirs
