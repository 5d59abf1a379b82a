/- The arguments of the laws: trees as the rows read them. -/
import Derived.Test.YthbanbnmomcohaaGreatDoorA8
import Derived.Test.YthbanbnmomcohaaGreatDoorE
import Derived.Test.YthbanbnmomcohaaGreatDoorA7
import Derived.Test.YthbanbnmomcohaaGreatDoorP11
set_option maxRecDepth 10000
noncomputable section
namespace Go.Ab.Dirs
open Go Go.Ab Go.Proofs Go.RowKit

theorem tt9 : SS.tt.get (path 9) = some ⟨.str, 1, 16, [.str []]⟩ := by kernel_rfl
theorem tt3 : SS.tt.get (path 3) = some ⟨.int .i64, 1, 8, [.int .i64 0]⟩ := by kernel_rfl
theorem tt5 : SS.tt.get (path 5) = some ⟨.int .u8, 1, 1, [.int .u8 0]⟩ := by kernel_rfl
theorem tt34 : SS.tt.get (path 34) = some ⟨.slice 3, 1, 24, [.nils]⟩ := by kernel_rfl
theorem tt33 : SS.tt.get (path 33) = some ⟨.slice 39, 1, 24, [.nils]⟩ := by kernel_rfl
theorem tt39 : SS.tt.get (path 39) = some ⟨.struct [(0, 9), (1, 9)], 2, 32, [.str [], .str []]⟩ := by kernel_rfl
theorem tt36 : SS.tt.get (path 36) = some ⟨.struct [(0, 5), (1, 9), (2, 33), (3, 9), (4, 3), (5, 34)], 6, 96, [.int .u8 0, .str [], .nils, .str [], .int .i64 0, .nils]⟩ := by kernel_rfl
theorem tt23 : SS.tt.get (path 23) = some ⟨.slice 36, 1, 24, [.nils]⟩ := by kernel_rfl

section
variable {H : Type} {enc : TypeId × Value → H} {sp : Nat → Bool} {held : Bool} {w : World}

def bN (bs : List UInt8) : List Nat := bs.map (·.toNat)

theorem trod_str {fuel : Nat} {cs : List Value} {d : DataW H} {p : List MemPlace} (h : DataW.trod enc Tryz.prog w 0 sp held fuel 9 cs = some (d, p)) : ∃ bs, d = .lit (.string bs) ∧ bs.length ≤ maxLen := by
  cases fuel with
  | zero => simp [DataW.trod] at h
  | succ fuel =>
    have hu := Tryz.underlying9
    rcases cs with _ | ⟨c, _ | ⟨c2, cs⟩⟩
    · simp [DataW.trod, hu] at h
    · cases c <;> simp [DataW.trod, hu] at h
      rename_i x
      exact ⟨_, h.2.1.symm, by simpa using h.1⟩
    · cases c <;> simp [DataW.trod, hu] at h

theorem trod_int {t : TypeId} {k : IntKind} (hu : Tryz.prog.underlying t = some (.int k)) {fuel : Nat} {cs : List Value} {d : DataW H} {p : List MemPlace} (h : DataW.trod enc Tryz.prog w 0 sp held fuel t cs = some (d, p)) : ∃ n, d = .lit (.int k n) ∧ (Lit.int k n).wf = true := by
  cases fuel with
  | zero => simp [DataW.trod] at h
  | succ fuel =>
    rcases cs with _ | ⟨c, _ | ⟨c2, cs⟩⟩
    · simp [DataW.trod, hu] at h
    · cases c <;> simp [DataW.trod, hu] at h
      rename_i k' n
      obtain ⟨⟨rfl, h2⟩, rfl, _⟩ := h
      exact ⟨n, rfl, h2⟩
    · cases c <;> simp [DataW.trod, hu] at h

theorem trod_slice {t e : TypeId} (hu : Tryz.prog.underlying t = some (.slice e)) {fuel : Nat} {cs : List Value} {d : DataW H} {p : List MemPlace} (h : DataW.trod enc Tryz.prog w 0 sp held fuel t cs = some (d, p)) :
    d = .nil ∨ ∃ es rest, d = .slice es rest ∧ es.length ≤ maxLen ∧ ∀ x ∈ es, ∃ fuel' cs' p', DataW.trod enc Tryz.prog w 0 sp held fuel' e cs' = some (x, p') := by
  cases fuel with
  | zero => simp [DataW.trod] at h
  | succ fuel =>
    rcases cs with _ | ⟨c, _ | ⟨c2, cs⟩⟩
    · simp [DataW.trod, hu] at h
    · cases c with
      | slice o len cap =>
        cases o with
        | none =>
          cases len <;> cases cap <;> simp [DataW.trod, hu] at h
          exact .inl h.1.symm
        | some a =>
          simp only [DataW.trod, hu] at h
          split at h
          · rename_i hb
            obtain ⟨els, hels, h⟩ := Option.bind_eq_some_iff.1 h
            obtain ⟨rest, _, h⟩ := Option.map_eq_some_iff.1 h
            simp only [Prod.mk.injEq] at h
            obtain ⟨rfl, -⟩ := h
            have hlen := Lib.mapM_length hels
            simp only [List.length_range] at hlen
            refine .inr ⟨els.map (·.1), _, rfl, (by rw [List.length_map]; omega), fun x hx => ?_⟩
            obtain ⟨y, hy, rfl⟩ := List.mem_map.1 hx
            obtain ⟨i, hi, rfl⟩ := List.getElem_of_mem hy
            have hil : i < len := by omega
            obtain ⟨b, hb1, hb2⟩ := Lib.mapM_at hels i i (by simp [hil])
            rw [List.getElem?_eq_getElem hi] at hb1
            cases hb1
            obtain ⟨cs', _, ht⟩ := Option.bind_eq_some_iff.1 hb2
            exact ⟨fuel, cs', els[i].2, ht⟩
          · simp at h
      | _ => simp [DataW.trod, hu] at h
    · cases c <;> simp [DataW.trod, hu] at h

theorem trod_struct {t : TypeId} {fa : Array Field} (hu : Tryz.prog.underlying t = some (.struct fa)) {fuel : Nat} {cs : List Value} {d : DataW H} {p : List MemPlace} (h : DataW.trod enc Tryz.prog w 0 sp held fuel t cs = some (d, p)) :
    ∃ ds, d = .agg ds ∧ ds.length = fa.size ∧ ∀ (i : Nat) (f : Field) (x : DataW H), fa[i]? = some f → ds[i]? = some x → ∃ fuel' cs' p', DataW.trod enc Tryz.prog w 0 sp held fuel' f.type cs' = some (x, p') := by
  cases fuel with
  | zero => simp [DataW.trod] at h
  | succ fuel =>
    have h' : (if cs.length = Tryz.prog.cellsOf t then (fa.toList.mapM fun f => DataW.trod enc Tryz.prog w 0 sp held fuel f.type ((cs.drop f.offset).take (Tryz.prog.cellsOf f.type))).map fun xs => (DataW.agg (xs.map (·.1)), xs.flatMap (·.2)) else none) = some (d, p) := by
      rw [← h]; simp only [DataW.trod, hu]
    split at h'
    · obtain ⟨xs, hxs, hx⟩ := Option.map_eq_some_iff.1 h'
      simp only [Prod.mk.injEq] at hx
      obtain ⟨rfl, -⟩ := hx
      have hlen := Lib.mapM_length hxs
      refine ⟨_, rfl, by simpa using hlen, fun i f x hf hx => ?_⟩
      rw [List.getElem?_map, Option.map_eq_some_iff] at hx
      obtain ⟨y, hy, rfl⟩ := hx
      obtain ⟨b, hb1, hb2⟩ := Lib.mapM_at hxs i f (by simpa using hf)
      rw [hy] at hb1; cases hb1
      exact ⟨fuel, _, y.2, hb2⟩
    · simp at h'

inductive All2 {α β : Type} (R : α → β → Prop) : List α → List β → Prop where
  | nil : All2 R [] []
  | cons {a b l m} (h : R a b) (ht : All2 R l m) : All2 R (a :: l) (b :: m)

def AttrOf (d : DataW H) (a : AttrD) : Prop := ∃ b1 b2, d = .agg [.lit (.string b1), .lit (.string b2)] ∧ a = (bN b1, bN b2) ∧ b1.length ≤ maxLen ∧ b2.length ≤ maxLen
inductive RowOf {α : Type} (f : DataW H → α → Prop) : DataW H → List α → Prop where
  | nil : RowOf f .nil []
  | slice {es rest l} (hl : es.length ≤ maxLen) (h : All2 f es l) : RowOf f (.slice es rest) l
def IntOf (d : DataW H) (n : Int) : Prop := d = .lit (.int .i64 n)
def NodeOf (d : DataW H) (n : ND) : Prop := ∃ k nm ad dt kd, d = .agg [.lit (.int .u8 k), .lit (.string nm), ad, .lit (.string dt), .lit (.int .i64 n.up), kd] ∧ k = (n.kind : Int) ∧ n.name = bN nm ∧ n.data = bN dt ∧ nm.length ≤ maxLen ∧ dt.length ≤ maxLen ∧ RowOf AttrOf ad n.attrs ∧ RowOf IntOf kd n.kids

theorem forall₂_of {α β : Type} {R : α → β → Prop} : ∀ {l : List α}, (∀ x ∈ l, ∃ y, R x y) → ∃ m, All2 R l m
  | [], _ => ⟨[], .nil⟩
  | x :: l, h => by
    obtain ⟨y, hy⟩ := h x (List.mem_cons_self)
    obtain ⟨m, hm⟩ := forall₂_of fun z hz => h z (List.mem_cons_of_mem _ hz)
    exact ⟨y :: m, .cons hy hm⟩

theorem row_of {α : Type} {f : DataW H → α → Prop} {t e : TypeId} (hu : Tryz.prog.underlying t = some (.slice e)) {fuel : Nat} {cs : List Value} {d : DataW H} {p : List MemPlace}
    (hf : ∀ fuel cs d p, DataW.trod enc Tryz.prog w 0 sp held fuel e cs = some (d, p) → ∃ a, f d a) (h : DataW.trod enc Tryz.prog w 0 sp held fuel t cs = some (d, p)) : ∃ l, RowOf f d l := by
  rcases trod_slice hu h with rfl | ⟨es, rest, rfl, hl, hx⟩
  · exact ⟨[], .nil⟩
  · obtain ⟨m, hm⟩ := forall₂_of (R := f) (l := es) fun x hxm => by
      obtain ⟨f', cs', p', h'⟩ := hx x hxm
      exact hf _ _ _ _ h'
    exact ⟨m, .slice hl hm⟩

theorem attr_of {fuel : Nat} {cs : List Value} {d : DataW H} {p : List MemPlace} (h : DataW.trod enc Tryz.prog w 0 sp held fuel 39 cs = some (d, p)) : ∃ a, AttrOf d a := by
  obtain ⟨ds, rfl, hl, hx⟩ := trod_struct Tryz.underlying39 h
  obtain ⟨d0, d1, rfl⟩ : ∃ d0 d1, ds = [d0, d1] := by
    match ds, hl with
    | [d0, d1], _ => exact ⟨d0, d1, rfl⟩
  obtain ⟨_, _, _, h0⟩ := hx 0 _ d0 rfl rfl
  obtain ⟨_, _, _, h1⟩ := hx 1 _ d1 rfl rfl
  obtain ⟨b0, rfl, l0⟩ := trod_str h0
  obtain ⟨b1, rfl, l1⟩ := trod_str h1
  exact ⟨_, b0, b1, rfl, rfl, l0, l1⟩

theorem node_of {fuel : Nat} {cs : List Value} {d : DataW H} {p : List MemPlace} (h : DataW.trod enc Tryz.prog w 0 sp held fuel 36 cs = some (d, p)) : ∃ n, NodeOf d n := by
  obtain ⟨ds, rfl, hl, hx⟩ := trod_struct Tryz.underlying36 h
  obtain ⟨d0, d1, d2, d3, d4, d5, rfl⟩ : ∃ d0 d1 d2 d3 d4 d5, ds = [d0, d1, d2, d3, d4, d5] := by
    match ds, hl with
    | [d0, d1, d2, d3, d4, d5], _ => exact ⟨d0, d1, d2, d3, d4, d5, rfl⟩
  obtain ⟨_, _, _, h0⟩ := hx 0 _ d0 rfl rfl
  obtain ⟨_, _, _, h1⟩ := hx 1 _ d1 rfl rfl
  obtain ⟨_, _, _, h2⟩ := hx 2 _ d2 rfl rfl
  obtain ⟨_, _, _, h3⟩ := hx 3 _ d3 rfl rfl
  obtain ⟨_, _, _, h4⟩ := hx 4 _ d4 rfl rfl
  obtain ⟨_, _, _, h5⟩ := hx 5 _ d5 rfl rfl
  obtain ⟨k, rfl, wk⟩ := trod_int Tryz.underlying5 h0
  obtain ⟨b1, rfl, l1⟩ := trod_str h1
  obtain ⟨b3, rfl, l3⟩ := trod_str h3
  obtain ⟨u, rfl, -⟩ := trod_int Tryz.underlying3 h4
  obtain ⟨al, hal⟩ := row_of (f := AttrOf) Tryz.underlying33 (fun _ _ _ _ h => attr_of h) h2
  obtain ⟨kl, hkl⟩ := row_of (f := IntOf) Tryz.underlying34 (fun _ _ _ _ h => by
    obtain ⟨n, rfl, -⟩ := trod_int Tryz.underlying3 h
    exact ⟨n, rfl⟩) h5
  have hk : 0 ≤ k := by
    simp only [Lit.wf, Bool.and_eq_true, decide_eq_true_eq] at wk
    have hm : IntKind.min .u8 = 0 := by kernel_rfl
    omega
  exact ⟨⟨k.toNat, bN b1, al, bN b3, u, kl⟩, k, b1, d2, b3, d5, rfl, by simp; omega, rfl, rfl, l1, l3, hal, hkl⟩

theorem tree_of {fuel : Nat} {cs : List Value} {d : DataW H} {p : List MemPlace} (h : DataW.trod enc Tryz.prog w 0 sp held fuel 23 cs = some (d, p)) : ∃ t, RowOf NodeOf d t := row_of Tryz.underlying23 (fun _ _ _ _ h => node_of h) h
end
end Go.Ab.Dirs
end

/- The arguments of the laws: trees as abstract values. -/
set_option maxRecDepth 10000
noncomputable section
namespace Go.Ab.Dirs
open Go Go.Ab Go.Proofs Go.RowKit

theorem maxLen_eq : maxLen = 9223372036854775807 := by decide

theorem bN_wf {bs : List UInt8} (h : bs.length ≤ maxLen) : SWF (bN bs) := by
  refine ⟨fun c hc => ?_, ?_⟩
  · obtain ⟨b, _, rfl⟩ := List.mem_map.1 hc
    exact b.toNat_lt
  · rw [bN, List.length_map]; rw [maxLen_eq] at h; omega

section
variable {H : Type}

theorem dav_str (n : Nat) (bs : List UInt8) : dav SS.tt (n + 1) 9 (.lit (.string bs) : DataW H) = some [.str (bN bs)] := by
  simp only [dav, tt9, dav1]; rfl
theorem dav_i64 (n : Nat) (m : Int) : dav SS.tt (n + 1) 3 (.lit (.int .i64 m) : DataW H) = some [.int .i64 m] := by
  simp only [dav, tt3, dav1]; rfl
theorem dav_u8 (n : Nat) (m : Int) : dav SS.tt (n + 1) 5 (.lit (.int .u8 m) : DataW H) = some [.int .u8 m] := by
  simp only [dav, tt5, dav1]; rfl

/-- Rows of plain elements. -/
theorem davAll_of {α : Type} {f : DataW H → α → Prop} {g : α → List AVal} {h : DataW H → Option (List AVal)} (hf : ∀ d a, f d a → h d = some (g a)) : ∀ {es : List (DataW H)} {l : List α}, All2 f es l → davAll h es = some (l.flatMap g)
  | _, _, .nil => rfl
  | _, _, .cons hd ht => by
    simp only [davAll, hf _ _ hd, davAll_of hf ht]; rfl
theorem All2.len {α β : Type} {R : α → β → Prop} : ∀ {l : List α} {m : List β}, All2 R l m → l.length = m.length
  | _, _, .nil => rfl
  | _, _, .cons _ h => by simp [h.len]

theorem flat_len {α : Type} {g : α → List AVal} {s : Nat} (hs : ∀ a, (g a).length = s) : ∀ l : List α, (l.flatMap g).length = l.length * s
  | [] => by simp
  | a :: l => by rw [List.flatMap_cons, List.length_append, hs, flat_len hs l, List.length_cons, Nat.succ_mul]; omega

theorem row_dav {α : Type} {f : DataW H → α → Prop} {g : α → List AVal} {s n t e : Nat} {z : List AVal} {b : Nat} (htt : SS.tt.get (path t) = some ⟨.slice e, 1, b, z⟩) (hs : ∀ a, (g a).length = s) (hpos : 0 < s)
    (hf : ∀ d a, f d a → dav SS.tt n e d = some (g a)) {d : DataW H} {l : List α} (h : RowOf f d l) :
    ∃ v, dav SS.tt (n + 1) t d = some [v] ∧ ∀ σ, SlI σ s v l.length (l.flatMap g) := by
  cases h with
  | nil =>
    refine ⟨.nils, ?_, fun σ => ⟨trivial, rfl⟩⟩
    simp only [dav, htt, dav1]; rfl
  | slice hl h2 =>
    rename_i es rest
    have hh : davHead (dav SS.tt n e) es = true := by
      cases h2 with
      | nil => rfl
      | cons hd ht =>
        rename_i a b l m
        simp only [davHead, hf _ _ hd]
        cases hg : g b with
        | nil => have := hs b; rw [hg] at this; simp at this; omega
        | cons x xs => rfl
    refine ⟨.rslice l.length (l.flatMap g), ?_, fun σ => ⟨trivial, ?_⟩⟩
    · simp only [dav, htt, dav1, hh, if_true, davAll_of hf h2, h2.len]; rfl
    · simp only [cellsIn]
      rw [takeX_eq.2 ⟨by rw [flat_len hs]; exact Nat.le_refl _, rfl⟩, List.take_of_length_le (by rw [flat_len hs]; exact Nat.le_refl _)]

theorem attr_dav (n : Nat) (d : DataW H) (a : AttrD) (h : AttrOf d a) : dav SS.tt (n + 2) 39 d = some (attrCells a) := by
  obtain ⟨b1, b2, rfl, rfl, -, -⟩ := h
  simp only [dav, tt39, dav1, davFields, tt9]; rfl

theorem attrs_dav (n : Nat) {d : DataW H} {l : List AttrD} (h : RowOf AttrOf d l) : ∃ v, dav SS.tt (n + 3) 33 d = some [v] ∧ ∀ σ, AttrsI σ v l :=
  row_dav (g := attrCells) (s := 2) (n := n + 2) tt33 (fun _ => rfl) (by decide) (fun d a h => attr_dav n d a h) h
theorem kids_dav (n : Nat) {d : DataW H} {l : List Int} (h : RowOf IntOf d l) : ∃ v, dav SS.tt (n + 2) 34 d = some [v] ∧ ∀ σ, IntsI σ v l := by
  obtain ⟨v, h1, h2⟩ := row_dav (g := fun m => [AVal.int .i64 m]) (s := 1) (n := n + 1) tt34 (fun _ => rfl) (by decide) (fun d a h => by
    rw [h]; exact dav_i64 n a) h
  refine ⟨v, h1, fun σ => ?_⟩
  have := h2 σ
  unfold IntsI
  have e : ∀ l : List Int, l.flatMap (fun m => [AVal.int .i64 m]) = l.map (AVal.int .i64) := by
    intro l
    induction l with
    | nil => rfl
    | cons a l ih => rw [List.flatMap_cons, ih]; rfl
  rw [e] at this
  exact this

theorem row_len {α : Type} {f : DataW H → α → Prop} {d : DataW H} {l : List α} (h : RowOf f d l) : l.length < 9223372036854775808 := by
  cases h with
  | nil => show 0 < _; decide
  | slice hl hh => rw [← hh.len]; rw [maxLen_eq] at hl; omega
theorem all2_attrs {es : List (DataW H)} {l : List AttrD} (hh : All2 AttrOf es l) : ∀ a ∈ l, SWF a.1 ∧ SWF a.2 := by
  induction hh with
  | nil => intro a ha; simp at ha
  | cons hd _ ih =>
    intro a ha
    rcases List.mem_cons.1 ha with rfl | ha
    · obtain ⟨b1, b2, rfl, rfl, l1, l2⟩ := hd
      exact ⟨bN_wf l1, bN_wf l2⟩
    · exact ih a ha
theorem row_attrs {d : DataW H} {l : List AttrD} (h : RowOf AttrOf d l) : ∀ a ∈ l, SWF a.1 ∧ SWF a.2 := by
  cases h with
  | nil => intro a ha; simp at ha
  | slice hl hh => exact all2_attrs hh

theorem node_dav (n : Nat) {d : DataW H} {x : ND} (h : NodeOf d x) : ∃ av kv cs, dav SS.tt (n + 4) 36 d = some cs ∧ (∀ σ, NodeC σ x av kv cs) ∧ NWF x := by
  obtain ⟨k, nm, ad, dt, kd, rfl, rfl, h1, h2, h3, h4, h5, h6⟩ := h
  obtain ⟨av, a1, a2⟩ := attrs_dav n h5
  obtain ⟨kv, b1, b2⟩ := kids_dav (n + 1) h6
  refine ⟨av, kv, [.int .u8 (x.kind : Int), .str x.name, av, .str x.data, .int .i64 x.up, kv], ?_, fun σ => ⟨rfl, a2 σ, b2 σ⟩, ?_⟩
  · have e1 := dav_u8 (H := H) (n + 2) (x.kind : Int)
    have e2 := dav_str (H := H) (n + 2) nm
    have e3 := dav_str (H := H) (n + 2) dt
    have e4 := dav_i64 (H := H) (n + 2) x.up
    rw [show n + 4 = (n + 3) + 1 from rfl]
    rw [dav]
    simp only [tt36, dav1, davFields, e1, e2, a1, e3, e4, b1, List.length_cons, List.length_nil, Nat.zero_add, Nat.reduceAdd, if_true, List.cons_append, List.nil_append, h1, h2]
  · refine ⟨by rw [h1]; exact bN_wf h3, by rw [h2]; exact bN_wf h4, ?_, ?_, ?_⟩
    · exact row_attrs h5
    · exact row_len h5
    · exact row_len h6

theorem nodes_dav (n : Nat) : ∀ {es : List (DataW H)} {t : List ND}, All2 NodeOf es t → ∃ cs, davAll (dav SS.tt (n + 4) 36) es = some cs ∧ (∀ σ, NodesC σ t cs) ∧ (∀ x ∈ t, NWF x) ∧ cs.length = t.length * 6 ∧ davHead (dav SS.tt (n + 4) 36) es = true
  | _, _, .nil => ⟨[], rfl, fun _ => .nil, fun x hx => by simp at hx, rfl, rfl⟩
  | _, _, .cons hd ht => by
    obtain ⟨av, kv, cs, h1, h2, h3⟩ := node_dav n hd
    obtain ⟨ds, g1, g2, g3, g4, -⟩ := nodes_dav n ht
    have hcs : cs.length = 6 := by rw [(h2 st0).1]; rfl
    refine ⟨cs ++ ds, by simp only [davAll, h1, g1], fun σ => .cons (h2 σ) (g2 σ), ?_, by rw [List.length_append, hcs, g4, List.length_cons, Nat.succ_mul]; omega, ?_⟩
    · intro x hx
      rcases List.mem_cons.1 hx with rfl | hx
      · exact h3
      · exact g3 x hx
    · simp only [davHead, h1]
      rw [(h2 st0).1]

/-- A tree of the rows. -/
theorem tree_dav {d : DataW H} {t : List ND} (h : RowOf NodeOf d t) : ∃ v, dav SS.tt 6 23 d = some [v] ∧ (∀ σ, TreeI σ v t) ∧ (∀ x ∈ t, NWF x) ∧ t.length < 9223372036854775808 := by
  cases h with
  | nil =>
    refine ⟨.nils, ?_, fun σ => ⟨[], ⟨trivial, rfl⟩, .nil⟩, fun x hx => by simp at hx, by show 0 < _; decide⟩
    simp only [dav, tt23, dav1]; rfl
  | slice hl hh =>
    rename_i es rest
    obtain ⟨cs, h1, h2, h3, h4, h5⟩ := nodes_dav 1 hh
    refine ⟨.rslice t.length cs, ?_, fun σ => ⟨cs, ⟨trivial, ?_⟩, h2 σ⟩, h3, by rw [← hh.len]; rw [maxLen_eq] at hl; omega⟩
    · rw [dav]
      simp only [tt23, dav1, h5, if_true, h1, hh.len]
      rfl
    · simp only [cellsIn]
      rw [takeX_eq.2 ⟨by rw [h4]; exact Nat.le_refl _, rfl⟩, List.take_of_length_le (by rw [h4]; exact Nat.le_refl _)]
end

/-- What is handed to a law as its tree. -/
theorem tree_arg {H : Type} {enc : TypeId × Value → H} {sp : Nat → Bool} {held : Bool} {W : World} {base : Nat} {v : Value} {d : DataW H} {p : List MemPlace} (hv : Value.okWide Tryz.prog W .any base 23 v) (h : DataW.Trod enc Tryz.prog W 0 sp held 23 v d p) :
    ∃ a t, VR W [] a v ∧ (∀ σ, TreeI σ a t) ∧ (∀ x ∈ t, NWF x) ∧ t.length < 9223372036854775808 := by
  obtain ⟨x, len, cap, rfl⟩ := Go.WideShapes.okWide_slice Tryz.underlying23 hv
  obtain ⟨fuel, hf⟩ := h
  obtain ⟨t, ht⟩ := tree_of hf
  obtain ⟨a, h1, h2, h3, h4⟩ := tree_dav ht
  have hS := OKS.of (P := Tryz.prog) (S := SS) tt_ok
  obtain ⟨hvr, -⟩ := trod_VRs hS fuel 6 23 _ d p [a] hf h1
  refine ⟨a, t, ?_, h2, h3, h4⟩
  have hc : (Value.slice x len cap).cells.toList = [.slice x len cap] := rfl
  rw [hc] at hvr
  obtain ⟨y, ys, e, hy, -⟩ := hvr
  cases e
  exact hy
end Go.Ab.Dirs
end
