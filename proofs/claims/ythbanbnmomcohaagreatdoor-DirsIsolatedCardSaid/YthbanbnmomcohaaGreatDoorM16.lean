/- The abstract machine, part 32: what a datum of the rows is as abstract cells. -/
import Derived.Test.YthbanbnmomcohaaGreatDoorM9
import Derived.Lib.LaidTab
set_option linter.all false
set_option linter.unusedSimpArgs false
namespace Go.Ab
open Go Go.RowKit

noncomputable def davAll {H : Type} (f : DataW H → Option (List AVal)) : List (DataW H) → Option (List AVal)
  | [] => some []
  | d :: ds => match f d, davAll f ds with | some x, some y => some (x ++ y) | _, _ => none

/-- The parts of a struct: one behind the other. -/
noncomputable def davFields {H : Type} (f : TypeId → DataW H → Option (List AVal)) : List (Nat × TypeId) → Nat → List (DataW H) → Option (List AVal)
  | [], _, [] => some []
  | (off, t) :: fs, pos, d :: ds => if off = pos then (match f t d with | some x => (match davFields f fs (pos + x.length) ds with | some y => some (x ++ y) | none => none) | none => none) else none
  | _, _, _ => none

/-- An element, if there is one, has cells. -/
noncomputable def davHead {H : Type} (f : DataW H → Option (List AVal)) : List (DataW H) → Bool
  | [] => true
  | d :: _ => match f d with | some (_ :: _) => true | _ => false

noncomputable def dav1 {H : Type} (f : TypeId → DataW H → Option (List AVal)) (td : TD) (d : DataW H) : Option (List AVal) :=
  match td, d with
  | .bool, .lit (.bool b) => some [.bool b]
  | .int k, .lit (.int k' m) => if k' = k then some [.int k m] else none
  | .str, .lit (.string bs) => some [.str (bs.map (·.toNat))]
  | .ptr _, .nil => some [.nilp]
  | .slice _, .nil => some [.nils]
  | .slice e, .slice es _ => if davHead (f e) es = true then (match davAll (f e) es with | some l => some [.rslice es.length l] | none => none) else none
  | .struct fs, .agg ds => davFields f fs 0 ds
  | .arr m e, .agg ds => if ds.length = m then davAll (f e) ds else none
  | _, _ => none

noncomputable def dav (tt : Tr TI) {H : Type} : Nat → TypeId → DataW H → Option (List AVal)
  | 0, _, _ => none
  | n + 1, t, d =>
    match tt.get (path t) with
    | none => none
    | some ti =>
      match dav1 (dav tt n) ti.d d with
      | some l => if l.length = ti.size then some l else none
      | none => none

section
variable {w : World} {ν : List Place}

theorem ROs_append {r o : Nat} {as bs : List AVal} (h1 : ROs w ν r o as) (h2 : ROs w ν r (o + as.length) bs) : ROs w ν r o (as ++ bs) := by
  rw [ROs_iff] at h1 h2 ⊢
  intro j a ha
  by_cases hj : j < as.length
  · rw [List.getElem?_append_left hj] at ha; exact h1 j a ha
  · rw [List.getElem?_append_right (by omega)] at ha
    obtain ⟨x, hx, hax⟩ := h2 (j - as.length) a ha
    exact ⟨x, by rw [show o + j = o + as.length + (j - as.length) by omega]; exact hx, hax⟩

theorem ROs_of {r o : Nat} {as : List AVal} {cs : List Value} (h : VRs w ν as cs) (hc : ∀ (j : Nat) v, cs[j]? = some v → w.cell? ⟨r, o + j, none⟩ = some v) : ROs w ν r o as := by
  rw [ROs_iff]
  intro j a ha
  obtain ⟨x, hx, hax⟩ := VRs_get h ha
  exact ⟨x, hc j x hx, hax⟩

theorem cells_at {base : Nat} {a : Addr} {n : Nat} {cs : List Value} (h : w.cells? base a n = some cs) : cs.length = n ∧ ∀ (j : Nat) v, cs[j]? = some v → w.cell? (a.add j) = some v := by
  unfold World.cells? at h
  split at h
  · have hl := Lib.mapM_length h
    refine ⟨by simpa using hl, fun j v hv => ?_⟩
    have hj : j < n := by have := (List.getElem?_eq_some_iff.1 hv).1; simpa [hl] using this
    obtain ⟨b, hb, hb'⟩ := Lib.mapM_at h j j (by simp [hj])
    rw [hv] at hb; cases hb; exact hb'
  · simp at h

variable {P : Program} {S : Stat} {H : Type} {enc : TypeId × Value → H} {sp : Nat → Bool} {held : Bool}

theorem OkTI.cells {t : TypeId} {ti : TI} (h : OkTI P t ti) : P.cellsOf t = ti.size := by
  obtain ⟨i, z, hi, hs, _⟩ := h.info
  simp [Program.cellsOf, hi, hs]

/-- What 'trod' reads of so many cells. -/
def ReadsAs (P : Program) (w : World) (tt : Tr TI) (enc : TypeId × Value → H) (sp : Nat → Bool) (held : Bool) (fuel : Nat) : Prop :=
  ∀ (n : Nat) (t : TypeId) (cs : List Value) (d : DataW H) (p : List MemPlace) (as : List AVal), DataW.trod enc P w 0 sp held fuel t cs = some (d, p) → dav tt n t d = some as → VRs w [] as cs ∧ cs.length = P.cellsOf t

theorem rows_read {tt : Tr TI} {fuel : Nat} (ih : ReadsAs P w tt enc sp held fuel) (n : Nat) (e : TypeId) (r : Nat) : ∀ (ds : List (DataW H)) (o : Nat) (l : List AVal), davAll (dav tt n e) ds = some l →
    (∀ (i : Nat) (d : DataW H), ds[i]? = some d → ∃ cs p, w.cells? 0 ⟨r, o + i * P.cellsOf e, none⟩ (P.cellsOf e) = some cs ∧ DataW.trod enc P w 0 sp held fuel e cs = some (d, p)) → ROs w [] r o l
  | [], _, l, h, _ => by simp only [davAll, Option.some.injEq] at h; subst h; simp [ROs]
  | d :: ds, o, l, h, hd => by
    simp only [davAll] at h
    split at h
    · rename_i x y hx hy
      simp only [Option.some.injEq] at h; subst h
      obtain ⟨cs, p, hc, ht⟩ := hd 0 d rfl
      obtain ⟨hv, hl⟩ := ih n e cs d p x ht hx
      simp only [Nat.zero_mul, Nat.add_zero] at hc
      obtain ⟨_, hcell⟩ := cells_at hc
      have hxl : x.length = P.cellsOf e := by rw [← VRs_length hv, hl]
      refine ROs_append (ROs_of hv fun j v hj => by have := hcell j v hj; rwa [add_plain] at this) ?_
      refine rows_read ih n e r ds (o + x.length) y hy fun i d' hi => ?_
      obtain ⟨cs', p', hc', ht'⟩ := hd (i + 1) d' (by simpa using hi)
      refine ⟨cs', p', ?_, ht'⟩
      rw [hxl, show o + P.cellsOf e + i * P.cellsOf e = o + (i + 1) * P.cellsOf e by rw [Nat.succ_mul]; omega]; exact hc'
    · simp at h

theorem arr_read {tt : Tr TI} {fuel : Nat} (ih : ReadsAs P w tt enc sp held fuel) (n : Nat) (e : TypeId) (cs : List Value) : ∀ (ds : List (DataW H)) (k : Nat) (l : List AVal), davAll (dav tt n e) ds = some l →
    (∀ (i : Nat) (d : DataW H), ds[i]? = some d → ∃ p, DataW.trod enc P w 0 sp held fuel e ((cs.drop ((k + i) * P.cellsOf e)).take (P.cellsOf e)) = some (d, p)) → VRs w [] l ((cs.drop (k * P.cellsOf e)).take (ds.length * P.cellsOf e)) ∧ l.length = ds.length * P.cellsOf e
  | [], _, l, h, _ => by simp only [davAll, Option.some.injEq] at h; subst h; simp [VRs]
  | d :: ds, k, l, h, hd => by
    simp only [davAll] at h
    split at h
    · rename_i x y hx hy
      simp only [Option.some.injEq] at h; subst h
      obtain ⟨p, ht⟩ := hd 0 d rfl
      obtain ⟨hv, hl⟩ := ih n e _ d p x ht hx
      obtain ⟨hv2, hl2⟩ := arr_read ih n e cs ds (k + 1) y hy fun i d' hi => by
        obtain ⟨p', ht'⟩ := hd (i + 1) d' (by simpa using hi)
        exact ⟨p', by rw [show k + 1 + i = k + (i + 1) by omega]; exact ht'⟩
      simp only [Nat.add_zero] at hv hl
      have hxl : x.length = P.cellsOf e := by rw [← VRs_length hv, hl]
      refine ⟨?_, by rw [List.length_append, hxl, hl2, List.length_cons, Nat.succ_mul]; omega⟩
      have hsplit : (cs.drop (k * P.cellsOf e)).take ((d :: ds).length * P.cellsOf e) = (cs.drop (k * P.cellsOf e)).take (P.cellsOf e) ++ (cs.drop ((k + 1) * P.cellsOf e)).take (ds.length * P.cellsOf e) := by
        rw [List.length_cons, Nat.succ_mul ds.length, Nat.add_comm (ds.length * P.cellsOf e), List.take_add, List.drop_drop, Nat.succ_mul k]
      rw [hsplit]
      exact VRs_append hv hv2
    · simp at h

theorem fields_read {tt : Tr TI} {fuel : Nat} (ih : ReadsAs P w tt enc sp held fuel) (n : Nat) (cs : List Value) : ∀ (fs : List (Nat × TypeId)) (pos : Nat) (ds : List (DataW H)) (l : List AVal), davFields (dav tt n) fs pos ds = some l →
    (∀ (i : Nat) (f : Nat × TypeId) (d : DataW H), fs[i]? = some f → ds[i]? = some d → ∃ p, DataW.trod enc P w 0 sp held fuel f.2 ((cs.drop f.1).take (P.cellsOf f.2)) = some (d, p)) → VRs w [] l ((cs.drop pos).take l.length)
  | [], pos, ds, l, h, _ => by
    cases ds with
    | nil => simp only [davFields, Option.some.injEq] at h; subst h; simp [VRs]
    | cons _ _ => simp [davFields] at h
  | (off, t) :: fs, pos, ds, l, h, hd => by
    cases ds with
    | nil => simp [davFields] at h
    | cons d ds =>
      simp only [davFields] at h
      split at h
      · rename_i he; subst he
        split at h
        · rename_i x hx
          split at h
          · rename_i y hy
            simp only [Option.some.injEq] at h; subst h
            obtain ⟨p, ht⟩ := hd 0 (off, t) d rfl rfl
            obtain ⟨hv, hl⟩ := ih n t _ d p x ht hx
            simp only at hv hl
            have hxl : x.length = P.cellsOf t := by rw [← VRs_length hv, hl]
            have hv2 := fields_read ih n cs fs (off + x.length) ds y hy fun i f d' hf hi => hd (i + 1) f d' (by simpa using hf) (by simpa using hi)
            have hsplit : (cs.drop off).take (x ++ y).length = (cs.drop off).take (P.cellsOf t) ++ (cs.drop (off + x.length)).take y.length := by
              rw [List.length_append, List.take_add, List.drop_drop, hxl]
            rw [hsplit]
            exact VRs_append hv hv2
          · simp at h
        · simp at h
      · simp at h

/-- WHAT A DATUM IS AS CELLS. -/
theorem trod_VRs (hS : OKS P S) : ∀ fuel, ReadsAs P w S.tt enc sp held fuel
  | 0 => fun n t cs d p as h => by simp [DataW.trod] at h
  | fuel + 1 => by
    have ih := trod_VRs hS fuel
    intro n t cs d p as h hd
    cases n with
    | zero => simp [dav] at hd
    | succ n =>
      simp only [dav] at hd
      split at hd
      · simp at hd
      · rename_i ti hti
        have ht := hS t ti hti
        obtain ⟨de, hu, hde⟩ := ht.und
        have hcells := ht.cells
        split at hd
        · rename_i l hl
          split at hd
          · rename_i hlen
            simp only [Option.some.injEq] at hd; subst hd
            have key : VRs w [] l cs → VRs w [] l cs ∧ cs.length = P.cellsOf t := fun h => ⟨h, by rw [VRs_length h, hlen, hcells]⟩
            refine key ?_
            unfold dav1 at hl
            split at hl
            · -- bool
              rename_i b htd
              rw [htd] at hde
              have := td_bool hde; subst this
              simp only [Option.some.injEq] at hl; subst hl
              rcases cs with _ | ⟨c, _ | ⟨c2, cs⟩⟩
              · simp [DataW.trod, hu] at h
              · cases c <;> simp [DataW.trod, hu] at h
                rename_i b'
                simp only [VRs, VR]
                exact ⟨_, [], rfl, by rw [h.1], rfl⟩
              · cases c <;> simp [DataW.trod, hu] at h
            · -- int
              rename_i k k' m htd
              rw [htd] at hde
              have := td_int hde; subst this
              split at hl
              · rename_i hk; subst hk
                simp only [Option.some.injEq] at hl; subst hl
                rcases cs with _ | ⟨c, _ | ⟨c2, cs⟩⟩
                · simp [DataW.trod, hu] at h
                · cases c <;> simp [DataW.trod, hu] at h
                  obtain ⟨⟨rfl, _⟩, rfl, _⟩ := h
                  simp only [VRs, VR]
                  exact ⟨_, [], rfl, rfl, rfl⟩
                · cases c <;> simp [DataW.trod, hu] at h
              · simp at hl
            · -- string
              rename_i bs htd
              rw [htd] at hde
              have := td_str hde; subst this
              simp only [Option.some.injEq] at hl; subst hl
              rcases cs with _ | ⟨c, _ | ⟨c2, cs⟩⟩
              · simp [DataW.trod, hu] at h
              · cases c <;> simp [DataW.trod, hu] at h
                obtain ⟨_, rfl, _⟩ := h
                simp only [VRs, VR]
                exact ⟨_, [], rfl, ⟨_, rfl, rfl⟩, rfl⟩
              · cases c <;> simp [DataW.trod, hu] at h
            · -- a nil pointer
              rename_i e htd
              rw [htd] at hde
              have := td_ptr hde; subst this
              simp only [Option.some.injEq] at hl; subst hl
              rcases cs with _ | ⟨c, _ | ⟨c2, cs⟩⟩
              · simp [DataW.trod, hu] at h
              · cases c with
                | pointer o =>
                  cases o with
                  | none => simp only [VRs, VR]; exact ⟨_, [], rfl, rfl, rfl⟩
                  | some a =>
                    exfalso
                    simp only [DataW.trod, hu] at h
                    obtain ⟨x, _, h⟩ := Option.map_eq_some_iff.1 h
                    simp at h
                | _ => simp [DataW.trod, hu] at h
              · cases c <;> simp [DataW.trod, hu] at h
            · -- a nil slice
              rename_i e htd
              rw [htd] at hde
              have := td_slice hde; subst this
              simp only [Option.some.injEq] at hl; subst hl
              rcases cs with _ | ⟨c, _ | ⟨c2, cs⟩⟩
              · simp [DataW.trod, hu] at h
              · cases c with
                | slice o len cap =>
                  cases o with
                  | none =>
                    cases len with
                    | zero =>
                      cases cap with
                      | zero => simp only [VRs, VR]; exact ⟨_, [], rfl, rfl, rfl⟩
                      | succ cap => simp [DataW.trod, hu] at h
                    | succ len => simp [DataW.trod, hu] at h
                  | some a =>
                    exfalso
                    simp only [DataW.trod, hu] at h
                    split at h
                    · obtain ⟨es, _, h⟩ := Option.bind_eq_some_iff.1 h
                      obtain ⟨rest, _, h⟩ := Option.map_eq_some_iff.1 h
                      simp at h
                    · simp at h
                | _ => simp [DataW.trod, hu] at h
              · cases c <;> simp [DataW.trod, hu] at h
            · -- a slice
              rename_i e es sp' htd
              rw [htd] at hde
              have := td_slice hde; subst this
              split at hl
              case isFalse => simp at hl
              rename_i hhead
              split at hl
              · rename_i l' hl'
                simp only [Option.some.injEq] at hl; subst hl
                rcases cs with _ | ⟨c, _ | ⟨c2, cs⟩⟩
                · simp [DataW.trod, hu] at h
                · cases c with
                  | slice o len cap =>
                    cases o with
                    | none => cases len <;> cases cap <;> simp [DataW.trod, hu] at h
                    | some a =>
                      simp only [DataW.trod, hu] at h
                      split at h
                      · rename_i hb
                        obtain ⟨els, hels, h⟩ := Option.bind_eq_some_iff.1 h
                        obtain ⟨rest, _, h⟩ := Option.map_eq_some_iff.1 h
                        simp only [Prod.mk.injEq, DataW.slice.injEq] at h
                        obtain ⟨⟨rfl, -⟩, -⟩ := h
                        have hlen' := Lib.mapM_length hels
                        simp only [List.length_range] at hlen'
                        have hat : ∀ (i : Nat) (d : DataW H), (els.map (·.1))[i]? = some d → ∃ cs p, w.cells? 0 (a.add (i * P.cellsOf e)) (P.cellsOf e) = some cs ∧ DataW.trod enc P w 0 sp held fuel e cs = some (d, p) := by
                          intro i d hi
                          rw [List.getElem?_map, Option.map_eq_some_iff] at hi
                          obtain ⟨x, hx, rfl⟩ := hi
                          have hil : i < len := by have := (List.getElem?_eq_some_iff.1 hx).1; omega
                          obtain ⟨b, hb1, hb2⟩ := Lib.mapM_at hels i i (by simp [hil])
                          rw [hx] at hb1; cases hb1
                          obtain ⟨cs, hcs, ht'⟩ := Option.bind_eq_some_iff.1 hb2
                          exact ⟨cs, x.2, hcs, ht'⟩
                        simp only [VRs, VR]
                        refine ⟨_, [], rfl, ⟨a, cap, by simp [hlen'], by simp [hlen']; exact hb.2.1, ?_⟩, rfl⟩
                        cases els with
                        | nil =>
                          simp only [List.map_nil, davAll, Option.some.injEq] at hl'
                          exact .inl ⟨rfl, hl'.symm⟩
                        | cons x els =>
                          right
                          obtain ⟨cs0, p0, hc0, ht0⟩ := hat 0 x.1 rfl
                          simp only [List.map_cons, davHead] at hhead
                          split at hhead
                          · rename_i y ys hy
                            obtain ⟨hv0, hl0⟩ := ih n e cs0 x.1 p0 _ ht0 hy
                            obtain ⟨hcl, hcell⟩ := cells_at hc0
                            simp only [VRs] at hv0
                            obtain ⟨z, zs, rfl, -, -⟩ := hv0
                            have hz := hcell 0 z rfl
                            obtain ⟨b, off, spot⟩ := a
                            have hspot : spot = none := by simpa [Addr.add] using World.cell?_spot hz
                            subst hspot
                            refine ⟨b, off, rfl, rows_read ih n e b _ off l' hl' fun i d hi => ?_⟩
                            obtain ⟨cs, p, g1, g2⟩ := hat i d hi
                            rw [add_plain] at g1
                            exact ⟨cs, p, g1, g2⟩
                          · simp at hhead
                      · simp at h
                  | _ => simp [DataW.trod, hu] at h
                · cases c <;> simp [DataW.trod, hu] at h
              · simp at hl
            · -- a struct
              rename_i fs ds htd
              rw [htd] at hde
              obtain ⟨fa, rfl, hfs⟩ := td_struct hde
              have h' : (if cs.length = P.cellsOf t then (fa.toList.mapM fun f => DataW.trod enc P w 0 sp held fuel f.type ((cs.drop f.offset).take (P.cellsOf f.type))).map fun xs => (DataW.agg (xs.map (·.1)), xs.flatMap (·.2)) else none) = some (.agg ds, p) := by
                rw [← h]; simp only [DataW.trod, hu]
              split at h'
              · rename_i hcl
                obtain ⟨xs, hxs, hx⟩ := Option.map_eq_some_iff.1 h'
                simp only [Prod.mk.injEq, DataW.agg.injEq] at hx
                obtain ⟨rfl, -⟩ := hx
                have := fields_read ih n cs fs 0 _ l hl (by
                  intro i f d hf hd'
                  subst hfs
                  rw [List.getElem?_map, Option.map_eq_some_iff] at hf
                  obtain ⟨g, hg, rfl⟩ := hf
                  rw [List.getElem?_map, Option.map_eq_some_iff] at hd'
                  obtain ⟨x, hx, rfl⟩ := hd'
                  obtain ⟨b, hb1, hb2⟩ := Lib.mapM_at hxs i g (by simpa using hg)
                  rw [hx] at hb1; cases hb1
                  exact ⟨x.2, hb2⟩)
                rw [List.drop_zero, List.take_of_length_le (by omega)] at this
                exact this
              · simp at h'
            · -- an array
              rename_i m e ds htd
              rw [htd] at hde
              have := td_arr hde; subst this
              split at hl
              · rename_i hm
                have h' : (if cs.length = P.cellsOf t then ((List.range m).mapM fun i => DataW.trod enc P w 0 sp held fuel e ((cs.drop (i * P.cellsOf e)).take (P.cellsOf e))).map fun xs => (DataW.agg (xs.map (·.1)), xs.flatMap (·.2)) else none) = some (.agg ds, p) := by
                  rw [← h]; simp only [DataW.trod, hu]
                split at h'
                · rename_i hcl
                  obtain ⟨xs, hxs, hx⟩ := Option.map_eq_some_iff.1 h'
                  simp only [Prod.mk.injEq, DataW.agg.injEq] at hx
                  obtain ⟨rfl, -⟩ := hx
                  have hxl := Lib.mapM_length hxs
                  simp only [List.length_range] at hxl
                  obtain ⟨h1, h2⟩ := arr_read ih n e cs _ 0 l hl (by
                    intro i d hd'
                    rw [List.getElem?_map, Option.map_eq_some_iff] at hd'
                    obtain ⟨x, hx, rfl⟩ := hd'
                    have hil : i < m := by have := (List.getElem?_eq_some_iff.1 hx).1; omega
                    obtain ⟨b, hb1, hb2⟩ := Lib.mapM_at hxs i i (by simp [hil])
                    rw [hx] at hb1; cases hb1
                    rw [Nat.zero_add]
                    exact ⟨x.2, hb2⟩)
                  rw [Nat.zero_mul, List.drop_zero, List.take_of_length_le (by omega)] at h1
                  exact h1
                · simp at h'
              · simp at hl
            · simp at hl
          · simp at hd
        · simp at hd
end
end Go.Ab
