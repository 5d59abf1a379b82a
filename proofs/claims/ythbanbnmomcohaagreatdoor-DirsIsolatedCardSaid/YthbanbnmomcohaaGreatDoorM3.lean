/- The abstract machine, part 8: append. -/
import Derived.Test.YthbanbnmomcohaaGreatDoorM2
import Derived.Laws.Slices
import GoSem.Dispatch
set_option linter.all false
set_option linter.unusedSimpArgs false
namespace Go.Ab
open Go Go.RowKit
section
variable {P : Program} {w0 w : World} {ν : List Place} {σ : St}

theorem bytesOf_length (x : ByteArray) : (bytesOf x).length = x.size := by simp [bytesOf]

theorem VRs_bytes (x : ByteArray) : VRs w0 ν (cellsOfBytes (bytesOf x)) (x.data.toList.map fun b => .int .u8 b.toNat) := by
  rw [VRs_iff]
  refine ⟨by simp [cellsOfBytes, bytesOf], ?_⟩
  intro j a v ha hv
  simp only [cellsOfBytes, bytesOf, List.map_map, List.getElem?_map, Option.map_eq_some_iff] at ha hv
  obtain ⟨y, hy, rfl⟩ := ha
  obtain ⟨z, hz, rfl⟩ := hv
  rw [hy] at hz; cases hz
  simp

/-- What a slice or a string hands to append, to copy. -/
theorem cells_sim (hrel : Rel w0 ν σ w) {s n : Nat} {l : List AVal} {v : AVal} {y : Value} (h : cellsIn σ s v = some (n, l)) (hv : VR w0 ν v y) :
    (Builtin.lenOf y).run P w = .ok n w ∧ ∃ vs : List Value, VRs w0 ν l vs ∧ (Builtin.firstCells s n y).run P w = .ok vs.toArray w ∧ l.length = n * s := by
  unfold cellsIn at h
  split at h
  · -- nil
    simp at h; obtain ⟨rfl, rfl⟩ := h
    simp only [VR] at hv; subst hv
    exact ⟨rfl, [], by simp [VRs], rfl, by simp⟩
  · rename_i b i n' s'
    split at h
    · rename_i hss; subst hss
      split at h
      · rename_i f e cs hb
        split at h
        · rename_i l' hsub
          simp at h; obtain ⟨rfl, rfl⟩ := h
          simp only [VR] at hv
          obtain ⟨p, a, cap, hp, rfl, hn, h0, hext, ha⟩ := hv
          obtain ⟨hle, rfl⟩ := sub_eq.1 hsub
          have hlen : ((cs.drop i).take (n' * s)).length = n' * s := by simp; omega
          refine ⟨rfl, ?_⟩
          rcases ha with ha | rfl
          · have hn0 : n' = 0 := by omega
            subst hn0
            simp only [Nat.zero_mul, List.take_zero]
            refine ⟨[], by simp [VRs], ?_, rfl⟩
            simp [Builtin.firstCells, loadCells, loadCellsFrom]
          · obtain ⟨vs, hvs, hrun⟩ := run_loadCells_at (P := P) (((hrel.cellsAt hb hp).drop i).take (n' * s))
            rw [hlen] at hrun
            exact ⟨vs, hvs, by simpa [Builtin.firstCells] using hrun, hlen⟩
        · simp at h
      · simp at h
    · simp at h
  · rename_i n' cs
    split at h
    · rename_i l' htk
      simp at h; obtain ⟨rfl, rfl⟩ := h
      simp only [VR] at hv
      obtain ⟨ad, cap, rfl, hn, hro⟩ := hv
      obtain ⟨hle, rfl⟩ := takeX_eq.1 htk
      rcases hro with ⟨rfl, rfl⟩ | ⟨r, o, rfl, hro⟩
      · refine ⟨rfl, [], by simp [VRs], ?_, by simp⟩
        simp [Builtin.firstCells, loadCells, loadCellsFrom]
      have hlen : (cs.take (n' * s)).length = n' * s := by simp; omega
      obtain ⟨vs, hvs, hrun⟩ := run_loadCells_at (P := P) ((hro.at hrel.below).take (n' * s))
      rw [hlen] at hrun
      exact ⟨rfl, vs, hvs, by simpa [Builtin.firstCells] using hrun, hlen⟩
    · simp at h
  · rename_i t
    split at h
    · rename_i hs1
      simp at h; obtain ⟨rfl, rfl⟩ := h
      simp only [VR] at hv
      obtain ⟨x, rfl, rfl⟩ := hv
      subst hs1
      rw [lenL_eq, bytesOf_length]
      refine ⟨rfl, x.data.toList.map fun b => .int .u8 b.toNat, VRs_bytes x, ?_, by simp [cellsOfBytes, bytesOf]⟩
      have e : x.extract 0 x.size = x := by
        apply ByteArray.ext; simp
      simp only [Builtin.firstCells, e, Sem.run_pure]
      congr 1
      apply Array.ext'
      simp
    · simp at h
  · simp at h

theorem growBy_le (newLen : Nat) : ∀ (k c : Nat), 256 ≤ c → c < newLen → Builtin.growBy newLen k c ≤ 2 * newLen
  | 0, c, _, h => by simp [Builtin.growBy]; omega
  | k + 1, c, h1, h2 => by
    simp only [Builtin.growBy]
    rw [if_neg (by omega)]
    by_cases h : c + (c + 768) / 4 < newLen
    · exact growBy_le newLen k _ (by omega) h
    · cases k with
      | zero => simp [Builtin.growBy]; omega
      | succ k => simp only [Builtin.growBy]; rw [if_pos (by omega)]; omega

theorem nextslicecap_le {need cap : Nat} (h : cap < need) : Builtin.nextslicecap need cap ≤ 2 * need := by
  unfold Builtin.nextslicecap
  split
  · omega
  · split
    · omega
    · exact growBy_le need 4 cap (by omega) h

theorem Rel.drew (hrel : Rel w0 ν σ w) : Rel w0 ν σ w.drew := hrel.world (Below.refl _ _).drew fun _ => rfl

theorem zeroCells_size (z : Array Value) (n : Nat) : (Builtin.zeroCells z n).size = n * z.size := by simp [Builtin.zeroCells]

/-- append where the array has no room: a new one. -/
theorem sim_grow (hrel : Rel w0 ν σ w) {t u e : TypeId} {ti te tu : TI} (ht : OkTI P t ti) (hti : ti.d = .slice e) (he : OkTI P e te) (hz : te.zero.length = te.size) (hs : 0 < te.size)
    (hu : OkTI P u tu) (htu : ∀ k, tu.d ≠ .int k) {base : Option Addr} {n m cap : Nat} {old new : List AVal} {os ns : List Value} {y : Value} (hn : n ≤ cap) (hcap : cap < n + m)
    (hold : (Builtin.firstCells te.size n (.slice base n cap)).run P w.drew = .ok os.toArray w.drew) (hos : VRs w0 ν old os) (hol : old.length = n * te.size)
    (hlen : (Builtin.lenOf y).run P w = .ok m w) (hnew : (Builtin.firstCells te.size m y).run P w.drew = .ok ns.toArray w.drew) (hns : VRs w0 ν new ns) (hnl : new.length = m * te.size)
    (hb : (n + m) * te.bytes ≤ 1099511627776) (hb0 : 0 < te.bytes) (args : Array TypeId) (hargs : args = #[t, u]) (ty : TypeId) :
    Gives P w0 ν (σ.new (.cells false e (old ++ new))) (.slice σ.next 0 (n + m) te.size) (Builtin.append_ args ty #[.slice base n cap, y]) w := by
  subst hargs
  obtain ⟨d, hd, hdd⟩ := ht.und
  obtain ⟨du, hdu, hddu⟩ := hu.und
  obtain ⟨z, hzr, hza⟩ := he.zero w.drew
  obtain ⟨i, hi, hib⟩ := he.typeInfo w
  have hi' : (Go.typeInfo e).run P w.drew = .ok i w.drew := by
    obtain ⟨i', hi', _⟩ := he.typeInfo (P := P) w.drew
    obtain ⟨j, _, hj, _⟩ := he.info
    rw [run_typeInfo _ hj] at hi ⊢
    cases hi; rfl
  have hde : d = .slice e := by
    rw [hti] at hdd
    cases d <;> simp [tdOf] at hdd
    rw [hdd]
  subst hde
  have hdui : ∀ k, du ≠ .int k := by
    intro k hk
    exact htu k (by rw [← hddu, hk]; rfl)
  have hzl : z.cells.size = te.size := by
    have := VRs_length (avals_VRs (w0 := w0) (ν := ν) hza)
    simp at this; omega
  have hnm : n + m ≤ 1099511627776 := Nat.le_trans (Nat.le_mul_of_pos_right _ hb0) hb
  have hcapn : ¬ (Builtin.nextslicecap (n + m) cap * i.bytes > 2 ^ 48) := by
    have h1 := nextslicecap_le hcap
    have h2 : Builtin.nextslicecap (n + m) cap * i.bytes ≤ 2 * (n + m) * i.bytes := Nat.mul_le_mul_right _ h1
    rw [hib] at *
    have h3 : 2 * (n + m) * te.bytes = 2 * ((n + m) * te.bytes) := by rw [Nat.mul_assoc]
    omega
  let q := Question.appendCap (n + m) cap e
  let nc := q.cut (w.tape w.drawn q)
  have hncdef : nc = (Question.appendCap (n + m) cap e).cut (w.tape w.drawn (Question.appendCap (n + m) cap e)) := rfl
  have hnc : n + m ≤ nc := by rw [hncdef]; simp [Question.cut]
  let row : Array Value := os.toArray ++ ns.toArray ++ Builtin.zeroCells z.cells (nc - (n + m))
  have hos' := VRs_length hos
  have hns' := VRs_length hns
  have hrow : row.size = nc * te.size := by
    show (os.toArray ++ ns.toArray ++ Builtin.zeroCells z.cells (nc - (n + m))).size = _
    rw [Array.size_append, Array.size_append, zeroCells_size, hzl]
    simp only [List.size_toArray]
    rw [hos', hns', hol, hnl, ← Nat.add_mul, ← Nat.add_mul]
    congr 1; omega
  have hrel' := hrel.drew
  have hsz : w.drew.heap.size = w.heap.size := rfl
  refine ⟨ν ++ [⟨w.heap.size, 0, row.size⟩], .slice (some ⟨w.heap.size, 0, none⟩) (n + m) nc, w.drew.alloc (.cells row e), List.prefix_append _ _, ?_, ?_, ?_⟩
  · exact VR_newslice hrel (n + m) nc te.size row.size hnc (by omega) hs
  · refine hrel'.new_row e row (old ++ new) false (fun j a ha => ?_) ?_ (by simp)
    · obtain ⟨x, hx, hax⟩ := VRs_get (VRs_append hos hns) ha
      refine ⟨x, ?_, hax⟩
      have hj : j < (os ++ ns).length := (List.getElem?_eq_some_iff.1 hx).1
      have : (os.toArray ++ ns.toArray)[j]? = some x := by simpa using hx
      show (os.toArray ++ ns.toArray ++ _)[j]? = some x
      rw [Array.getElem?_append_left (by simpa using hj)]
      exact this
    · rw [hrow, List.length_append, hol, hnl, ← Nat.add_mul]
      exact Nat.mul_le_mul_right _ hnc
  · have hmx : IntKind.i64.max = 9223372036854775807 := by decide
    have hf : (Question.appendCap (n + m) cap e).forced = false := rfl
    have hne : ¬ (n + m ≤ cap) := by omega
    have hno : ¬ (((n + m : Nat) : Int) > IntKind.i64.max ∧ (False ∨ i.bytes = 0)) := by rw [hmx]; omega
    unfold Builtin.append_
    simp only [List.getElem?_cons_zero, List.getElem?_cons_succ, Sem.run_bind, run_underlying hd, run_underlying hdu, he.sizeOf, Result.andThen_ok, Sem.run_pure, List.getElem?_toArray]
    cases du <;> first | (exact absurd rfl (hdui _)) | skip
    all_goals
      simp only [Bool.false_eq_true, if_false, hlen, Result.andThen_ok, hi, hne, hcapn, hno, Sem.run_bind, Sem.run_ite, Sem.run_pure, run_choose, hf, hi', run_askRoom, hold, hnew, hzr, hz, newRow, run_newObj, World.drew_eq, Bool.not_false, if_true, ite_self, Option.isSome]
      rfl
end
end Go.Ab

namespace Go.Ab
open Go Go.RowKit
section
variable {P : Program} {w0 w : World} {ν : List Place} {σ : St}

/-- append where the array has room: written in place. -/
theorem sim_room (hrel : Rel w0 ν σ w) {t u e : TypeId} {ti te tu : TI} (ht : OkTI P t ti) (hti : ti.d = .slice e) (he : OkTI P e te)
    (hu : OkTI P u tu) (htu : ∀ k, tu.d ≠ .int k) {b i : Nat} {f : Bool} {cs old : List AVal} (hb : σ.get b = some (.cells f e cs)) {p : Place} (hp : ν[b]? = some p) {n m cap : Nat} {new : List AVal} {ns : List Value} {y : Value}
    (hsub : sub cs i (n * te.size) = some old) (hcap : n + m ≤ cap) (hext : i + cap * te.size ≤ p.ext) (hs : 0 < te.size)
    (hlen : (Builtin.lenOf y).run P w = .ok m w) (hnew : (Builtin.firstCells te.size m y).run P w = .ok ns.toArray w) (hns : VRs w0 ν new ns) (hnl : new.length = m * te.size) (hone : allOne new = true)
    (args : Array TypeId) (hargs : args = #[t, u]) (ty : TypeId) :
    Gives P w0 ν ((σ.kill b).new (.cells false e (old ++ new))) (.slice σ.next 0 (n + m) te.size) (Builtin.append_ args ty #[.slice (some ⟨p.block, p.off + i, none⟩) n cap, y]) w := by
  subst hargs
  obtain ⟨d, hd, hdd⟩ := ht.und
  obtain ⟨du, hdu, hddu⟩ := hu.und
  have hde : d = .slice e := by
    rw [hti] at hdd
    cases d <;> simp [tdOf] at hdd
    rw [hdd]
  subst hde
  have hdui : ∀ k, du ≠ .int k := by
    intro k hk
    exact htu k (by rw [← hddu, hk]; rfl)
  obtain ⟨hle, hold⟩ := sub_eq.1 hsub
  have hns' := VRs_length hns
  obtain ⟨q, hq, hq0, ho⟩ := hrel.live b _ hb
  rw [hp] at hq; cases hq
  obtain ⟨hcl, c, fr, hc, hce, hfr, hcv, _⟩ := ho
  have hmul : n * te.size + m * te.size ≤ cap * te.size := by rw [← Nat.add_mul]; exact Nat.mul_le_mul_right _ hcap
  have hbound : p.off + i + n * te.size + ns.length ≤ c.size := by omega
  have hrun := run_storeCells_wr P p.block ns w (p.off + i + n * te.size) 0 c e fr hc (by simpa using hbound) (fun j hj => by
    have := hfr (i + n * te.size + j) (by omega)
    simpa [Nat.add_assoc] using this) (VRs_one hns hone)
  obtain ⟨c', hc', hs', ha, hbd, hd'⟩ := wr_block p.block ns w (p.off + i + n * te.size) c e fr hc hbound
  have holdl : old.length = n * te.size := by rw [hold]; simp; omega
  let p' : Place := ⟨p.block, p.off + i, p.ext - i⟩
  have hin : i ≤ p.ext := by omega
  refine ⟨ν ++ [p'], .slice (some ⟨p.block, p.off + i, none⟩) (n + m) cap, wr w p.block (p.off + i + n * te.size) ns, List.prefix_append _ _, ?_, ?_, ?_⟩
  · simp only [VR]
    refine ⟨p', _, cap, new_get hrel _, rfl, hcap, hs, ?_, .inr rfl⟩
    show 0 + cap * te.size ≤ p.ext - i
    omega
  · refine hrel.take hb hp _ p' rfl (wr_below (by omega) _ _ _) (fun k hk => wr_other _ _ _ _ _ hk) ?_
    refine ⟨?_, c', fr, hc', ?_, ?_, ?_, by simp⟩
    · show (old ++ new).length ≤ p.ext - i
      rw [List.length_append, holdl, hnl]; omega
    · show p.off + i + (p.ext - i) ≤ c'.size
      omega
    · intro j hj
      have hj' : j < p.ext - i := hj
      have := hfr (i + j) (by omega)
      show ¬ (fr.1 ≤ p.off + i + j ∧ p.off + i + j < fr.2)
      rwa [← Nat.add_assoc] at this
    · intro j a hja
      by_cases hj : j < n * te.size
      · rw [List.getElem?_append_left (by omega), hold, List.getElem?_take, if_pos hj, List.getElem?_drop] at hja
        obtain ⟨x, hx, hax⟩ := hcv (i + j) a hja
        refine ⟨x, ?_, VR_mono (List.prefix_append _ _) a x hax⟩
        show c'[p.off + i + j]? = some x
        rw [ha _ (by omega), Nat.add_assoc]; exact hx
      · rw [List.getElem?_append_right (by omega), holdl] at hja
        obtain ⟨x, hx, hax⟩ := VRs_get hns hja
        refine ⟨x, ?_, VR_mono (List.prefix_append _ _) a x hax⟩
        have := hbd (j - n * te.size) x hx
        show c'[p.off + i + j]? = some x
        rwa [show p.off + i + n * te.size + (j - n * te.size) = p.off + i + j by omega] at this
  · unfold Builtin.append_
    simp only [List.getElem?_cons_zero, List.getElem?_cons_succ, Sem.run_bind, run_underlying hd, run_underlying hdu, he.sizeOf, Result.andThen_ok, Sem.run_pure, List.getElem?_toArray]
    cases du <;> first | (exact absurd rfl (hdui _)) | skip
    all_goals
      simp only [Bool.false_eq_true, if_false, hlen, Result.andThen_ok, Sem.run_bind, Sem.run_pure, hnew, Bool.not_false, if_true, hcap, add_plain]
      simp only [Nat.add_zero] at hrun
      rw [hrun]
      rfl

theorem VR_str_iff {v : AVal} {x : Value} {t : List Nat} (h : VR w0 ν v x) (hv : v = .str t) : ∃ s, x = .string s := by
  subst hv; simp only [VR] at h; obtain ⟨s, rfl, _⟩ := h; exact ⟨s, rfl⟩

/-- append, whole. -/
theorem sim_append (hrel : Rel w0 ν σ w) {t u e : TypeId} {ti te tu : TI} (ht : OkTI P t ti) (hti : ti.d = .slice e) (he : OkTI P e te) (hz : te.zero.length = te.size) (hs : 0 < te.size) (hb0 : 0 < te.bytes)
    (hu : OkTI P u tu) (htu : (∃ e', tu.d = .slice e') ∨ tu.d = .str) {xv yv : AVal} {x y : Value} (hx : VR w0 ν xv x) (hy : VR w0 ν yv y)
    {r : AVal} {σ' : St} (T : Tab) (env : Env) {xo yo : Opd} (hxo : xo.ev T env = xv) (hyo : yo.ev T env = yv) (h : opAppend T false e te.size te.bytes xo yo env σ = some (r, σ'))
    (args : Array TypeId) (hargs : args = #[t, u]) (ty : TypeId) :
    Gives P w0 ν σ' r (Builtin.append_ args ty #[x, y]) w := by
  have htui : ∀ k, tu.d ≠ .int k := by
    intro k hk
    rcases htu with ⟨e', he'⟩ | he' <;> rw [he'] at hk <;> simp at hk
  unfold opAppend at h
  simp only [Bool.false_eq_true, if_false, hxo, hyo] at h
  split at h
  · -- nothing is appended
    rename_i l hc
    obtain ⟨hlen, vs, hvs, hrun, hll⟩ := cells_sim (P := P) hrel hc hy
    have hvs0 : vs = [] := by
      have h1 := VRs_length hvs
      have : vs.length = 0 := by rw [h1, hll]; simp
      exact List.length_eq_zero_iff.1 this
    subst hvs0
    have key : ∀ (base : Option Addr) (n cap : Nat), n ≤ cap → x = .slice base n cap → VR w0 ν xv (.slice base n cap) → (Builtin.append_ args ty #[x, y]).run P w = .ok (.slice base n cap) w := by
      intro base n cap hn hxe _
      subst hxe; subst hargs
      obtain ⟨d, hd, hdd⟩ := ht.und
      obtain ⟨du, hdu, hddu⟩ := hu.und
      have hde : d = .slice e := by
        rw [hti] at hdd
        cases d <;> simp [tdOf] at hdd
        rw [hdd]
      subst hde
      have hdui : ∀ k, du ≠ .int k := by
        intro k hk
        exact htui k (by rw [← hddu, hk]; rfl)
      unfold Builtin.append_
      simp only [List.getElem?_cons_zero, List.getElem?_cons_succ, Sem.run_bind, run_underlying hd, run_underlying hdu, he.sizeOf, Result.andThen_ok, Sem.run_pure, List.getElem?_toArray]
      cases du <;> first | (exact absurd rfl (hdui _)) | skip
      all_goals
        simp only [Bool.false_eq_true, if_false, hlen, Result.andThen_ok, Sem.run_bind, Sem.run_pure, Bool.not_false, if_true, Nat.add_zero, hn, hrun]
        cases base <;> simp [storeCells]
    split at h
    · simp at h; obtain ⟨rfl, rfl⟩ := h
      simp only [VR] at hx
      refine .same hrel (x := .slice none 0 0) (by simp [VR]) (key none 0 0 (Nat.le_refl _) hx ?_)
      simp [VR]
    · rename_i b i n s'
      simp at h; obtain ⟨rfl, rfl⟩ := h
      have hx' := hx
      simp only [VR] at hx
      obtain ⟨p, a, cap, hp, rfl, hn, h0, hext, ha⟩ := hx
      exact .same hrel hx' (key (some a) n cap hn rfl hx')
    · simp at h
  · rename_i m new hc
    split at h
    · -- onto nil
      split at h
      · rename_i hcond
        obtain ⟨hb, hone⟩ := hcond
        rw [St.newK_eq] at h
        simp at h; obtain ⟨rfl, rfl⟩ := h
        simp only [VR] at hx; subst hx
        obtain ⟨hlen, vs, hvs, hrun, hll⟩ := cells_sim (P := P) hrel hc hy
        obtain ⟨_, vs', hvs', hrun', _⟩ := cells_sim (P := P) hrel.drew hc hy
        have := sim_grow hrel ht hti he hz hs hu htui (base := none) (n := 0) (m := m + 1) (cap := 0) (old := []) (new := new) (os := []) (ns := vs') (y := y) (Nat.le_refl _) (by omega)
          (by simp [Builtin.firstCells]) (by simp [VRs]) (by simp) hlen hrun' hvs' hll (by simpa using hb) hb0 args hargs ty
        simpa using this
      · simp at h
    · rename_i b i n s'
      split at h
      · rename_i hcond
        obtain ⟨hss, hb, hone⟩ := hcond
        subst hss
        split at h
        · rename_i f e' cs hbg
          split at h
          · rename_i hee; subst hee
            split at h
            · rename_i old hsub
              rw [St.killK_eq, St.newK_eq] at h
              simp at h; obtain ⟨rfl, rfl⟩ := h
              have hx' := hx
              simp only [VR] at hx
              obtain ⟨p, a, cap, hp, rfl, hn, h0, hext, ha⟩ := hx
              obtain ⟨hlen, vs, hvs, hrun, hll⟩ := cells_sim (P := P) hrel hc hy
              by_cases hcap : n + (m + 1) ≤ cap
              · rcases ha with ha | rfl
                · omega
                · exact sim_room hrel ht hti he hu htui hbg hp hsub hcap hext hs hlen hrun hvs hll hone args hargs ty
              · obtain ⟨_, vs', hvs', hrun', _⟩ := cells_sim (P := P) hrel.drew hc hy
                obtain ⟨hle, hold⟩ := sub_eq.1 hsub
                have hcell : cellsIn σ te.size (.slice b i n te.size) = some (n, old) := by
                  unfold cellsIn
                  simp only [if_true, hbg, hsub]
                obtain ⟨_, os, hos, horun, hol⟩ := cells_sim (P := P) hrel.drew hcell hx'
                have hg := sim_grow hrel ht hti he hz hs hu htui hn (by omega) horun hos hol hlen hrun' hvs' hll hb hb0 args hargs ty
                obtain ⟨ν', z, w', h1, h2, h3, h4⟩ := hg
                refine ⟨ν', z, w', h1, h2, ?_, h4⟩
                -- the old block is forgotten besides
                have hlt := hrel.lt hbg
                have hk := h3.kill b
                have hne : b ≠ σ.next := by rw [hrel.next]; omega
                have : ((σ.new (.cells false e (old ++ new))).kill b).get = ((σ.kill b).new (.cells false e (old ++ new))).get := by
                  funext c
                  by_cases hcb : c = b
                  · subst hcb
                    rw [St.get_kill_same, St.get_new_other _ _ (by show c ≠ σ.next; exact hne), St.get_kill_same]
                  · rw [St.get_kill_other _ hcb]
                    by_cases hcn : c = σ.next
                    · subst hcn
                      rw [St.get_new_same]
                      exact (St.get_new_same (σ.kill b) _).symm
                    · rw [St.get_new_other _ _ hcn, St.get_new_other _ _ (by show c ≠ σ.next; exact hcn), St.get_kill_other _ hcb]
                exact ⟨hk.below, hk.next, fun c o hc => hk.live c o (by rw [this]; exact hc), fun c c' o o' q q' h1 h2 => hk.apart c c' o o' q q' (by rw [this]; exact h1) (by rw [this]; exact h2)⟩
            · simp at h
          · simp at h
        · simp at h
      · simp at h
    · simp at h
  · simp at h
end
end Go.Ab

namespace Go.Ab
open Go Go.RowKit
section
variable {P : Program} {w0 w : World} {ν : List Place} {σ : St}

def VRO (w0 : World) (ν : List Place) : Option AVal → Option Value → Prop
  | none, none => True
  | some a, some v => VR w0 ν a v
  | _, _ => False

theorem toN_sim {a : AVal} {top n : Nat} (h : toN a top = some n) {v : Value} (hv : VR w0 ν a v) : ∃ k i, v = .int k i ∧ 0 ≤ i ∧ i ≤ (top : Int) ∧ n = i.toNat := by
  unfold toN at h
  split at h
  · rename_i k i
    split at h
    · rename_i hc
      simp at h; subst h
      simp only [VR] at hv
      exact ⟨k, i, hv, hc.1, hc.2, rfl⟩
    · simp at h
  · simp at h

theorem sim_bounds {isS : Bool} {len top cap : Nat} (htop : top ≤ cap) (hlt : len ≤ top) {lo hi mx : Option AVal} {lo' hi' mx' : Option Value} (hlo : VRO w0 ν lo lo') (hhi : VRO w0 ν hi hi') (hmx : VRO w0 ν mx mx')
    {l h : Nat} (hb : boundsL len top lo hi mx = some (l, h)) :
    ∃ m, (Instr.sliceBounds isS len cap lo' hi' mx').run P w = .ok (l, h, m) w ∧ l ≤ h ∧ h ≤ m ∧ m ≤ cap ∧ h ≤ top := by
  unfold boundsL at hb
  cases mx with
  | none =>
    cases mx' with
    | some _ => simp [VRO] at hmx
    | none =>
      simp only [toNo, Option.isSome_none, Bool.false_eq_true, if_false] at hb
      cases hi with
      | none =>
        cases hi' with
        | some _ => simp [VRO] at hhi
        | none =>
          cases lo with
          | none =>
            cases lo' with
            | some _ => simp [VRO] at hlo
            | none =>
              simp at hb; obtain ⟨rfl, rfl⟩ := hb
              exact ⟨cap, by simp [Instr.sliceBounds], Nat.zero_le _, by omega, Nat.le_refl _, by omega⟩
          | some lo =>
            cases lo' with
            | none => simp [VRO] at hlo
            | some lo' =>
              simp only at hb
              split at hb
              · rename_i l' hl
                simp at hb; obtain ⟨rfl, rfl⟩ := hb
                obtain ⟨k, i, rfl, h0, h1, rfl⟩ := toN_sim hl hlo
                exact ⟨cap, by simp [Instr.sliceBounds, run_sliceBound _ _ _ _ _ h0 h1], by omega, by omega, Nat.le_refl _, by omega⟩
              · simp at hb
      | some hi =>
        cases hi' with
        | none => simp [VRO] at hhi
        | some hi' =>
          simp only at hb
          split at hb
          · rename_i h' hh
            obtain ⟨k, i, rfl, h0, h1, rfl⟩ := toN_sim hh hhi
            have h1' : i ≤ (cap : Int) := by omega
            cases lo with
            | none =>
              cases lo' with
              | some _ => simp [VRO] at hlo
              | none =>
                simp [toNo] at hb; obtain ⟨rfl, rfl⟩ := hb
                exact ⟨cap, by simp [Instr.sliceBounds, run_sliceBound _ _ _ _ _ h0 h1'], Nat.zero_le _, by omega, Nat.le_refl _, by omega⟩
            | some lo =>
              cases lo' with
              | none => simp [VRO] at hlo
              | some lo' =>
                simp only [toNo] at hb
                split at hb
                · rename_i l' hl
                  simp at hb; obtain ⟨rfl, rfl⟩ := hb
                  obtain ⟨k', i', rfl, h0', h2, rfl⟩ := toN_sim hl hlo
                  exact ⟨cap, by simp [Instr.sliceBounds, run_sliceBound _ _ _ _ _ h0 h1', run_sliceBound _ _ _ _ _ h0' h2], by omega, by omega, Nat.le_refl _, by omega⟩
                · simp at hb
          · simp at hb
  | some mx =>
    cases mx' with
    | none => simp [VRO] at hmx
    | some mx' =>
      simp only [toNo] at hb
      split at hb
      · rename_i m hm
        obtain ⟨km, im, rfl, hm0, hm1, rfl⟩ := toN_sim hm hmx
        have hm1' : im ≤ (cap : Int) := by omega
        cases hi with
        | none => simp at hb
        | some hi =>
          cases hi' with
          | none => simp [VRO] at hhi
          | some hi' =>
            simp only at hb
            split at hb
            · rename_i h' hh
              obtain ⟨k, i, rfl, h0, h1, rfl⟩ := toN_sim hh hhi
              cases lo with
              | none =>
                cases lo' with
                | some _ => simp [VRO] at hlo
                | none =>
                  simp at hb; obtain ⟨rfl, rfl⟩ := hb
                  exact ⟨im.toNat, by simp [Instr.sliceBounds, run_sliceBound _ _ _ _ _ hm0 hm1', run_sliceBound _ _ _ _ _ h0 h1], Nat.zero_le _, by omega, by omega, by omega⟩
              | some lo =>
                cases lo' with
                | none => simp [VRO] at hlo
                | some lo' =>
                  simp only at hb
                  split at hb
                  · rename_i l' hl
                    simp at hb; obtain ⟨rfl, rfl⟩ := hb
                    obtain ⟨k', i', rfl, h0', h2, rfl⟩ := toN_sim hl hlo
                    exact ⟨im.toNat, by simp [Instr.sliceBounds, run_sliceBound _ _ _ _ _ hm0 hm1', run_sliceBound _ _ _ _ _ h0 h1, run_sliceBound _ _ _ _ _ h0' h2], by omega, by omega, by omega, by omega⟩
                  · simp at hb
            · simp at hb
      · simp at hb

theorem OkTI.desc {t : TypeId} {ti : TI} (h : OkTI P t ti) : ∃ d, P.underlying t = some d ∧ tdOf d = ti.d := h.und

theorem td_str {d : TypeDesc} (h : tdOf d = .str) : d = .string := by cases d <;> simp [tdOf] at h; rfl
theorem td_slice {d : TypeDesc} {e : TypeId} (h : tdOf d = .slice e) : d = .slice e := by cases d <;> simp [tdOf] at h; rw [h]
theorem td_arr {d : TypeDesc} {n : Nat} {e : TypeId} (h : tdOf d = .arr n e) : d = .array n e := by cases d <;> simp [tdOf] at h; rw [h.1, h.2]
theorem td_ptr {d : TypeDesc} {e : TypeId} (h : tdOf d = .ptr e) : d = .pointer e := by cases d <;> simp [tdOf] at h; rw [h]
theorem td_int {d : TypeDesc} {k : IntKind} (h : tdOf d = .int k) : d = .int k := by cases d <;> simp [tdOf] at h; rw [h]
theorem td_bool {d : TypeDesc} (h : tdOf d = .bool) : d = .bool := by cases d <;> simp [tdOf] at h; rfl
theorem td_uptr {d : TypeDesc} (h : tdOf d = .uptr) : d = .unsafePointer := by cases d <;> simp [tdOf] at h; rfl
theorem td_func {d : TypeDesc} (h : tdOf d = .func) : ∃ a b c, d = .func a b c := by cases d <;> simp [tdOf] at h; exact ⟨_, _, _, rfl⟩
theorem td_iface {d : TypeDesc} (h : tdOf d = .iface) : ∃ a, d = .interface a := by cases d <;> simp [tdOf] at h; exact ⟨_, rfl⟩
theorem td_struct {d : TypeDesc} {fs : List (Nat × TypeId)} (h : tdOf d = .struct fs) : ∃ a : Array Field, d = .struct a ∧ fs = a.toList.map fun f => (f.offset, f.type) := by
  cases d <;> simp [tdOf] at h; exact ⟨_, rfl, h.symm⟩

theorem bytes_extract (x : ByteArray) (l h : Nat) (hh : h ≤ x.size) : bytesOf (x.extract l h) = ((bytesOf x).drop l).take (h - l) := by
  simp only [bytesOf, ByteArray.data_extract, Array.toList_extract, List.extract_eq_take_drop, List.map_take, List.map_drop]

theorem sim_slStr (hrel : Rel w0 ν σ w) {t : TypeId} {ti : TI} (ht : OkTI P t ti) (hti : ti.d = .str) {s r : List Nat} {x : Value} (hx : VR w0 ν (.str s) x) {lo hi : Option AVal} {lo' hi' : Option Value} (hlo : VRO w0 ν lo lo') (hhi : VRO w0 ν hi hi')
    {l h : Nat} (hb : boundsL (lenL s) (lenL s) lo hi none = some (l, h)) (hs : sub s l (h - l) = some r) : Gives P w0 ν σ (.str r) (Instr.sliceAt t x lo' hi' none) w := by
  obtain ⟨d, hd, hdd⟩ := ht.und
  rw [hti] at hdd
  have := td_str hdd; subst this
  simp only [VR] at hx
  obtain ⟨y, rfl, rfl⟩ := hx
  rw [lenL_eq, bytesOf_length] at hb
  obtain ⟨m, hrun, h1, h2, h3, h4⟩ := sim_bounds (P := P) (w := w) (isS := false) (Nat.le_refl _) (Nat.le_refl _) hlo hhi (mx := none) (mx' := none) trivial hb
  obtain ⟨_, rfl⟩ := sub_eq.1 hs
  refine .same hrel (x := .string (y.extract l h)) (by simp only [VR]; exact ⟨_, rfl, bytes_extract y l h h4⟩) ?_
  simp [Instr.sliceAt, Instr.slice, run_underlying hd, hrun]

theorem sim_slSl (hrel : Rel w0 ν σ w) {t e : TypeId} {ti te : TI} (ht : OkTI P t ti) (hti : ti.d = .slice e) (he : OkTI P e te) {xv r : AVal} {x : Value} (hx : VR w0 ν xv x) {lo hi mx : Option Opd} {lo' hi' mx' : Option Value}
    (T : Tab) (env : Env) (hlo : VRO w0 ν (lo.map (·.ev T env)) lo') (hhi : VRO w0 ν (hi.map (·.ev T env)) hi') (hmx : VRO w0 ν (mx.map (·.ev T env)) mx') {xo : Opd} (hxo : xo.ev T env = xv) {σ' : St}
    (h : opSlSl T te.size xo lo hi mx env σ = some (r, σ')) : Gives P w0 ν σ' r (Instr.sliceAt t x lo' hi' mx') w := by
  obtain ⟨d, hd, hdd⟩ := ht.und
  rw [hti] at hdd
  have := td_slice hdd; subst this
  unfold opSlSl at h
  rw [hxo] at h
  split at h
  · split at h
    · rename_i b hb
      simp at h; obtain ⟨rfl, rfl⟩ := h
      simp only [VR] at hx; subst hx
      obtain ⟨l, hh⟩ := b
      obtain ⟨m, hrun, h1, h2, h3, h4⟩ := sim_bounds (P := P) (w := w) (isS := true) (cap := 0) (Nat.le_refl _) (Nat.le_refl _) hlo hhi hmx hb
      have hl0 : l = 0 := by omega
      have hh0 : hh = 0 := by omega
      have hm0 : m = 0 := by omega
      subst hl0; subst hh0; subst hm0
      refine .same hrel (x := .slice none 0 0) (by simp [VR]) ?_
      simp [Instr.sliceAt, Instr.slice, run_underlying hd, hrun, he.sizeOf]
    · simp at h
  · rename_i b i n s'
    split at h
    · rename_i hss; subst hss
      split at h
      · rename_i l hh hb
        simp at h; obtain ⟨rfl, rfl⟩ := h
        simp only [VR] at hx
        obtain ⟨p, a, cap, hp, rfl, hn, h0, hext, ha⟩ := hx
        obtain ⟨m, hrun, h1, h2, h3, h4⟩ := sim_bounds (P := P) (w := w) (isS := true) (cap := cap) hn (Nat.le_refl _) hlo hhi hmx hb
        refine .same hrel (x := .slice (some (if m = l then a else a.add (l * te.size))) (hh - l) (m - l)) ?_ ?_
        · simp only [VR]
          refine ⟨p, _, m - l, hp, rfl, by omega, h0, ?_, ?_⟩
          · have : l * te.size + (m - l) * te.size ≤ cap * te.size := by rw [← Nat.add_mul]; exact Nat.mul_le_mul_right _ (by omega)
            omega
          · by_cases hml : m = l
            · left; omega
            · right
              rw [if_neg hml]
              rcases ha with ha | rfl
              · omega
              · rw [add_plain, Nat.add_assoc]
        · simp only [Instr.sliceAt, Instr.slice, Sem.run_bind, run_underlying hd, Result.andThen_ok, hrun, he.sizeOf, Sem.run_pure]
          by_cases hml : m = l <;> simp [hml]
      · simp at h
    · simp at h
  · rename_i n cs
    split at h
    · rename_i l hh hb
      simp only [VR] at hx
      obtain ⟨ad, cap, rfl, hn, hro⟩ := hx
      obtain ⟨m, hrun, h1, h2, h3, h4⟩ := sim_bounds (P := P) (w := w) (isS := true) (cap := cap) hn (Nat.le_refl _) hlo hhi hmx hb
      have hres : (Instr.sliceAt t (.slice (some ad) n cap) lo' hi' mx').run P w = .ok (.slice (some (if m = l then ad else ad.add (l * te.size))) (hh - l) (m - l)) w := by
        simp only [Instr.sliceAt, Instr.slice, Sem.run_bind, run_underlying hd, Result.andThen_ok, hrun, he.sizeOf, Sem.run_pure]
        by_cases hml : m = l <;> simp [hml]
      split at h
      · rename_i hlh
        simp at h; obtain ⟨rfl, rfl⟩ := h
        refine .same hrel ?_ hres
        simp only [VR]
        exact ⟨_, m - l, by rw [show hh - l = 0 by omega], by omega, .inl (by simp)⟩
      · rename_i hlh
        split at h
        · rename_i r' hdr
          simp at h; obtain ⟨rfl, rfl⟩ := h
          obtain ⟨_, rfl⟩ := dropX_eq.1 hdr
          refine .same hrel ?_ hres
          rcases hro with ⟨h0, -⟩ | ⟨rb, o, rfl, hro⟩
          · exfalso; omega
          rw [if_neg (by omega), add_plain]
          simp only [VR]
          exact ⟨_, m - l, rfl, by omega, .inr ⟨_, _, rfl, ROs_drop hro _⟩⟩
        · simp at h
    · simp at h
  · simp at h

theorem sim_slArr (hrel : Rel w0 ν σ w) {t e : TypeId} {ti te : TI} {n : Nat} (ht : OkTI P t ti) (hti : ti.d = .arr n e) (he : OkTI P e te) {xv r : AVal} {x : Value} (hx : VR w0 ν xv x) {lo hi mx : Option Opd} {lo' hi' mx' : Option Value}
    (T : Tab) (env : Env) (hlo : VRO w0 ν (lo.map (·.ev T env)) lo') (hhi : VRO w0 ν (hi.map (·.ev T env)) hi') (hmx : VRO w0 ν (mx.map (·.ev T env)) mx') {xo : Opd} (hxo : xo.ev T env = xv) {σ' : St}
    (h : opSlArr T n te.size xo lo hi mx env σ = some (r, σ')) : Gives P w0 ν σ' r (Instr.sliceAt t x lo' hi' mx') w := by
  obtain ⟨d, hd, hdd⟩ := ht.und
  rw [hti] at hdd
  have := td_arr hdd; subst this
  unfold opSlArr at h
  split at h
  · rename_i l hh hb
    obtain ⟨m, hrun, h1, h2, h3, h4⟩ := sim_bounds (P := P) (w := w) (isS := false) (cap := n) (Nat.le_refl _) (Nat.le_refl _) hlo hhi hmx hb
    rw [hxo] at h
    have hres : ∀ a : Addr, (Instr.sliceAt t (.pointer (some a)) lo' hi' mx').run P w = .ok (.slice (some (if m = l then a else a.add (l * te.size))) (hh - l) (m - l)) w := by
      intro a
      simp only [Instr.sliceAt, Instr.sureAddr, Sem.run_bind, run_underlying hd, Result.andThen_ok, hrun, he.sizeOf, Sem.run_pure]
    split at h
    · rename_i b i
      split at h
      · rename_i f eb cs hbg
        split at h
        · rename_i hcond
          simp at h; obtain ⟨rfl, rfl⟩ := h
          simp only [VR] at hx
          obtain ⟨p, hp, rfl⟩ := hx
          refine .same hrel ?_ (hres _)
          obtain ⟨q, hq, _, ho⟩ := hrel.live b _ hbg
          rw [hp] at hq; cases hq
          have hcl : cs.length ≤ p.ext := ho.1
          rw [lenL_eq] at hcond
          simp only [VR]
          refine ⟨p, _, m - l, hp, rfl, by omega, hcond.2, ?_, ?_⟩
          · have : l * te.size + (m - l) * te.size ≤ n * te.size := by rw [← Nat.add_mul]; exact Nat.mul_le_mul_right _ (by omega)
            omega
          · by_cases hml : m = l
            · left; omega
            · right; rw [if_neg hml, add_plain, Nat.add_assoc]
        · simp at h
      · simp at h
    · rename_i cs
      simp only [VR] at hx
      obtain ⟨rb, o, rfl, hro⟩ := hx
      split at h
      · rename_i hlh
        simp at h; obtain ⟨rfl, rfl⟩ := h
        refine .same hrel ?_ (hres _)
        simp only [VR]
        exact ⟨_, m - l, by rw [show hh - l = 0 by omega], by omega, .inl (by simp)⟩
      · split at h
        · rename_i r' hdr
          simp at h; obtain ⟨rfl, rfl⟩ := h
          obtain ⟨_, rfl⟩ := dropX_eq.1 hdr
          refine .same hrel ?_ (hres _)
          rw [if_neg (by omega), add_plain]
          simp only [VR]
          exact ⟨_, m - l, rfl, by omega, .inr ⟨_, _, rfl, ROs_drop hro _⟩⟩
        · simp at h
    · simp at h
  · simp at h
end
end Go.Ab

namespace Go.Ab
open Go Go.RowKit
section
variable {P : Program} {w0 w : World} {ν : List Place} {σ : St}

theorem sim_fieldAddr (hrel : Rel w0 ν σ w) {t ft : TypeId} {ti tf : TI} {fs : List (Nat × TypeId)} {i off : Nat} (ht : OkTI P t ti) (hti : ti.d = .struct fs) (hf : fs[i]? = some (off, ft)) (htf : OkTI P ft tf) (h0 : tf.size ≠ 0)
    {xv r : AVal} {x : Value} (hx : VR w0 ν xv x) (T : Tab) (env : Env) {xo : Opd} (hxo : xo.ev T env = xv) {σ' : St} (h : opFieldAddr T off xo env σ = some (r, σ')) : Gives P w0 ν σ' r (Instr.fieldAt t x i) w := by
  obtain ⟨d, hd, hdd⟩ := ht.und
  rw [hti] at hdd
  obtain ⟨fa, rfl, hfa⟩ := td_struct hdd
  rw [hfa] at hf
  simp only [List.getElem?_map, Option.map_eq_some_iff] at hf
  obtain ⟨fld, hfld, heq⟩ := hf
  simp only [Prod.mk.injEq] at heq
  obtain ⟨rfl, rfl⟩ := heq
  have hfld' : fa[i]? = some fld := by simpa using hfld
  have hres : ∀ a : Addr, (Instr.fieldAt t (.pointer (some a)) i).run P w = .ok (.pointer (some (a.add fld.offset))) w := by
    intro a
    simp [Instr.fieldAt, run_underlying hd, hfld', Instr.sureAddr, fieldPlace, htf.sizeOf, h0]
  unfold opFieldAddr at h
  rw [hxo] at h
  split at h
  · simp at h; obtain ⟨rfl, rfl⟩ := h
    simp only [VR] at hx
    obtain ⟨p, hp, rfl⟩ := hx
    refine .same hrel ?_ (hres _)
    rw [add_plain]; simp only [VR]; exact ⟨p, hp, by rw [Nat.add_assoc]⟩
  · rename_i cs
    split at h
    · rename_i r' hdr
      simp at h; obtain ⟨rfl, rfl⟩ := h
      obtain ⟨_, rfl⟩ := dropX_eq.1 hdr
      simp only [VR] at hx
      obtain ⟨rb, o, rfl, hro⟩ := hx
      refine .same hrel ?_ (hres _)
      rw [add_plain]; simp only [VR]; exact ⟨rb, _, rfl, ROs_drop hro _⟩
    · simp at h
  · simp at h

theorem sim_field (hrel : Rel w0 ν σ w) {t ft : TypeId} {ti tf : TI} {fs : List (Nat × TypeId)} {i off : Nat} (ht : OkTI P t ti) (hti : ti.d = .struct fs) (hf : fs[i]? = some (off, ft)) (htf : OkTI P ft tf)
    {xv r : AVal} {x : Value} (hx : VR w0 ν xv x) (T : Tab) (env : Env) {xo : Opd} (hxo : xo.ev T env = xv) {σ' : St} (h : opField T off tf.aggN xo env σ = some (r, σ')) : Gives P w0 ν σ' r (Instr.field t x i) w := by
  obtain ⟨d, hd, hdd⟩ := ht.und
  rw [hti] at hdd
  obtain ⟨fa, rfl, hfa⟩ := td_struct hdd
  rw [hfa] at hf
  simp only [List.getElem?_map, Option.map_eq_some_iff] at hf
  obtain ⟨fld, hfld, heq⟩ := hf
  simp only [Prod.mk.injEq] at heq
  obtain ⟨rfl, rfl⟩ := heq
  have hfld' : fa[i]? = some fld := by simpa using hfld
  unfold opField at h
  rw [hxo] at h
  split at h
  · rename_i cs
    split at h
    · rename_i l hdr
      split at h
      · rename_i v hl
        simp at h; obtain ⟨rfl, rfl⟩ := h
        simp only [VR] at hx
        obtain ⟨xs, rfl, hxs⟩ := hx
        obtain ⟨y, hy, hvy⟩ := part_sim (P := P) (w := w) htf hxs hdr hl
        refine .same hrel hvy ?_
        simp [Instr.field, run_underlying hd, hfld', asAgg, hy]
      · simp at h
    · simp at h
  · simp at h

theorem sim_iaSl (hrel : Rel w0 ν σ w) {t e : TypeId} {ti te : TI} (ht : OkTI P t ti) (hti : ti.d = .slice e) (he : OkTI P e te) {xv iv r : AVal} {x i : Value} (hx : VR w0 ν xv x) (hi : VR w0 ν iv i) (T : Tab) (env : Env) {xo io : Opd} (hxo : xo.ev T env = xv) (hio : io.ev T env = iv)
    {σ' : St} (h : opIaSl T te.size xo io env σ = some (r, σ')) : Gives P w0 ν σ' r (Instr.indexAt t x i) w := by
  obtain ⟨d, hd, hdd⟩ := ht.und
  rw [hti] at hdd
  have := td_slice hdd; subst this
  unfold opIaSl at h
  rw [hxo, hio] at h
  have hres : ∀ (a : Addr) (n cap : Nat) (k : IntKind) (j : Int), 0 ≤ j → j < (n : Int) → (Instr.indexAt t (.slice (some a) n cap) (.int k j)).run P w = .ok (.pointer (some (a.add (j.toNat * te.size)))) w := by
    intro a n cap k j h0 h1
    simp [Instr.indexAt, asIntOf, run_underlying hd, h0, h1, he.sizeOf]
  split at h
  · rename_i b j n s' k i'
    split at h
    · rename_i hc
      obtain ⟨hss, h0, h1⟩ := hc
      simp at h; obtain ⟨rfl, rfl⟩ := h
      simp only [VR] at hx hi
      obtain ⟨p, a, cap, hp, rfl, hn, hs0, hext, ha⟩ := hx
      subst hi
      refine .same hrel ?_ (hres _ _ _ _ _ h0 h1)
      rcases ha with ha | rfl
      · omega
      · rw [add_plain]; simp only [VR]; exact ⟨p, hp, by rw [Nat.add_assoc]⟩
    · simp at h
  · rename_i n cs k i'
    split at h
    · rename_i hc
      obtain ⟨h0, h1⟩ := hc
      split at h
      · rename_i r' hdr
        simp at h; obtain ⟨rfl, rfl⟩ := h
        obtain ⟨_, rfl⟩ := dropX_eq.1 hdr
        simp only [VR] at hx hi
        obtain ⟨ad, cap, rfl, hn, hro⟩ := hx
        rcases hro with ⟨hz, -⟩ | ⟨rb, o, rfl, hro⟩
        · exfalso; omega
        subst hi
        refine .same hrel ?_ (hres _ _ _ _ _ h0 h1)
        rw [add_plain]; simp only [VR]; exact ⟨rb, _, rfl, ROs_drop hro _⟩
      · simp at h
    · simp at h
  · simp at h

theorem sim_iaArr (hrel : Rel w0 ν σ w) {t e : TypeId} {ti te : TI} {len : Nat} (ht : OkTI P t ti) (hti : ti.d = .arr len e) (he : OkTI P e te) {xv iv r : AVal} {x i : Value} (hx : VR w0 ν xv x) (hi : VR w0 ν iv i) (T : Tab) (env : Env) {xo io : Opd} (hxo : xo.ev T env = xv) (hio : io.ev T env = iv)
    {σ' : St} (h : opIaArr T len te.size xo io env σ = some (r, σ')) : Gives P w0 ν σ' r (Instr.indexAt t x i) w := by
  obtain ⟨d, hd, hdd⟩ := ht.und
  rw [hti] at hdd
  have := td_arr hdd; subst this
  unfold opIaArr at h
  rw [hxo, hio] at h
  have hres : ∀ (a : Addr) (k : IntKind) (j : Int), 0 ≤ j → j < (len : Int) → (Instr.indexAt t (.pointer (some a)) (.int k j)).run P w = .ok (.pointer (some (a.add (j.toNat * te.size)))) w := by
    intro a k j h0 h1
    simp [Instr.indexAt, asIntOf, run_underlying hd, h0, h1, he.sizeOf, Instr.sureAddr]
  split at h
  · rename_i b j k i'
    split at h
    · rename_i hc
      obtain ⟨h0, h1⟩ := hc
      simp at h; obtain ⟨rfl, rfl⟩ := h
      simp only [VR] at hx hi
      obtain ⟨p, hp, rfl⟩ := hx
      subst hi
      refine .same hrel ?_ (hres _ _ _ h0 h1)
      rw [add_plain]; simp only [VR]; exact ⟨p, hp, by rw [Nat.add_assoc]⟩
    · simp at h
  · rename_i cs k i'
    split at h
    · rename_i hc
      obtain ⟨h0, h1⟩ := hc
      split at h
      · rename_i r' hdr
        simp at h; obtain ⟨rfl, rfl⟩ := h
        obtain ⟨_, rfl⟩ := dropX_eq.1 hdr
        simp only [VR] at hx hi
        obtain ⟨rb, o, rfl, hro⟩ := hx
        subst hi
        refine .same hrel ?_ (hres _ _ _ h0 h1)
        rw [add_plain]; simp only [VR]; exact ⟨rb, _, rfl, ROs_drop hro _⟩
      · simp at h
    · simp at h
  · simp at h

theorem sim_ixArr (hrel : Rel w0 ν σ w) {t e : TypeId} {ti te : TI} {len : Nat} (ht : OkTI P t ti) (hti : ti.d = .arr len e) (he : OkTI P e te) {xv iv r : AVal} {x i : Value} (hx : VR w0 ν xv x) (hi : VR w0 ν iv i) (T : Tab) (env : Env) {xo io : Opd} (hxo : xo.ev T env = xv) (hio : io.ev T env = iv)
    {σ' : St} (h : opIxArr T len te.size te.agg xo io env σ = some (r, σ')) : Gives P w0 ν σ' r (Instr.index t x i) w := by
  obtain ⟨d, hd, hdd⟩ := ht.und
  rw [hti] at hdd
  have := td_arr hdd; subst this
  unfold opIxArr at h
  rw [hxo, hio] at h
  split at h
  · rename_i cs k i'
    split at h
    · rename_i hc
      obtain ⟨h0, h1⟩ := hc
      split at h
      · rename_i l hdr
        split at h
        · rename_i v hl
          simp at h; obtain ⟨rfl, rfl⟩ := h
          simp only [VR] at hx hi
          obtain ⟨xs, rfl, hxs⟩ := hx
          subst hi
          obtain ⟨y, hy, hvy⟩ := part_sim (P := P) (w := w) he hxs hdr hl
          refine .same hrel hvy ?_
          simp [Instr.index, asIntOf, run_underlying hd, h0, h1, he.sizeOf, hy]
        · simp at h
      · simp at h
    · simp at h
  · simp at h

theorem bytesOf_get (y : ByteArray) (j : Nat) : (bytesOf y)[j]? = (y[j]?).map (·.toNat) := by
  simp only [bytesOf, List.getElem?_map]
  congr 1
  by_cases h : j < y.size
  · have h' : j < y.data.size := h
    rw [getElem?_pos y j h]
    simp [h', ByteArray.getElem_eq_getElem_data]
  · have h' : ¬ j < y.data.size := h
    rw [getElem?_neg y j h]
    simp; exact Nat.le_of_not_lt h'

theorem sim_ixStr (hrel : Rel w0 ν σ w) {t : TypeId} {ti : TI} (ht : OkTI P t ti) (hti : ti.d = .str) {xv iv r : AVal} {x i : Value} (hx : VR w0 ν xv x) (hi : VR w0 ν iv i) (T : Tab) (env : Env) {xo io : Opd} (hxo : xo.ev T env = xv) (hio : io.ev T env = iv)
    {σ' : St} (h : opIxStr T xo io env σ = some (r, σ')) : Gives P w0 ν σ' r (Instr.index t x i) w := by
  obtain ⟨d, hd, hdd⟩ := ht.und
  rw [hti] at hdd
  have := td_str hdd; subst this
  unfold opIxStr at h
  rw [hxo, hio] at h
  split at h
  · rename_i s k i'
    split at h
    · rename_i h0
      split at h
      · rename_i c l hdr
        simp at h; obtain ⟨rfl, rfl⟩ := h
        simp only [VR] at hx hi
        obtain ⟨y, rfl, rfl⟩ := hx
        subst hi
        obtain ⟨_, hdl⟩ := dropX_eq.1 hdr
        have hc : (bytesOf y)[i'.toNat]? = some c := by
          have : ((bytesOf y).drop i'.toNat)[0]? = some c := by rw [← hdl]; rfl
          simpa using this
        rw [bytesOf_get] at hc
        simp only [Option.map_eq_some_iff] at hc
        obtain ⟨u, hu, rfl⟩ := hc
        refine .same hrel (x := .int .u8 u.toNat) (by simp [VR]) ?_
        simp [Instr.index, asIntOf, run_underlying hd, h0, hu]
      · simp at h
    · simp at h
  · simp at h

theorem sim_extract (hrel : Rel w0 ν σ w) {xv r : AVal} {x : Value} (hx : VR w0 ν xv x) {i : Nat} (T : Tab) (env : Env) {xo : Opd} (hxo : xo.ev T env = xv) {σ' : St} (h : opExtract T xo i env σ = some (r, σ')) : Gives P w0 ν σ' r (Instr.extract x i) w := by
  unfold opExtract at h
  rw [hxo] at h
  split at h
  · rename_i vs
    split at h
    · rename_i v l hdr
      simp at h; obtain ⟨rfl, rfl⟩ := h
      simp only [VR] at hx
      obtain ⟨xs, rfl, hxs⟩ := hx
      obtain ⟨_, hdl⟩ := dropX_eq.1 hdr
      have hv : vs[i]? = some v := by
        have : (vs.drop i)[0]? = some v := by rw [← hdl]; rfl
        simpa using this
      obtain ⟨y, hy, hvy⟩ := VRs_get hxs hv
      exact .same hrel hvy (by simp [Instr.extract, hy])
    · simp at h
  · simp at h

/-! ## Numbers -/
theorem wrapI_eq (k : IntKind) (n : Int) : wrapI k n = k.wrap n := by
  have e8 : (2 : Int) ^ 8 = 256 := rfl
  have e16 : (2 : Int) ^ 16 = 65536 := rfl
  have e32 : (2 : Int) ^ 32 = 4294967296 := rfl
  have e64 : (2 : Int) ^ 64 = 18446744073709551616 := rfl
  have e7 : (2 : Int) ^ (8 - 1) = 128 := rfl
  have e15 : (2 : Int) ^ (16 - 1) = 32768 := rfl
  have e31 : (2 : Int) ^ (32 - 1) = 2147483648 := rfl
  have e63 : (2 : Int) ^ (64 - 1) = 9223372036854775808 := rfl
  cases k <;> simp only [wrapI, modI, halfI, IntKind.wrap, IntKind.bits, IntKind.signed, e8, e16, e32, e64, e7, e15, e31, e63, Bool.false_and, Bool.true_and, Bool.false_eq_true, if_false, decide_eq_true_eq, ge_iff_le]
  all_goals first | exact if_neg (by omega) | (split <;> omega)

theorem ltBytes_eq : ∀ (a b : List UInt8), ltBytes (a.map (·.toNat)) (b.map (·.toNat)) = Op.bytesLess a b
  | _, [] => by cases ‹List UInt8› <;> simp [ltBytes, Op.bytesLess]
  | [], _ :: _ => by simp [ltBytes, Op.bytesLess]
  | a :: x, b :: y => by
    simp only [List.map_cons, ltBytes, Op.bytesLess, ltBytes_eq x y]
    congr 1
    · rw [Bool.eq_iff_iff]; simp [Nat.blt, UInt8.lt_iff_toNat_lt, Nat.succ_le_iff]
    · congr 1
      rw [Bool.eq_iff_iff]; simp [← UInt8.toNat_inj]
end
end Go.Ab

namespace Go.Ab
open Go Go.RowKit
section
variable {P : Program} {w0 w : World} {ν : List Place} {σ : St}

theorem sim_intArith {op : BinOp} {k : IntKind} {x y : Int} {r : AVal} (h : intArith op k x y = some r) (hns : op ≠ .shl ∧ op ≠ .shr) (t : TypeId) :
    ∃ v, (Go.binOp op t (.int k x) (.int k y)).run P w = .ok v w ∧ VR w0 ν r v := by
  cases op with
  | shl => exact absurd rfl hns.1
  | shr => exact absurd rfl hns.2
  | quo =>
    by_cases h0 : y = 0
    · simp [intArith, h0] at h
    · simp only [intArith, h0, if_false, Option.some.injEq, wrapI_eq] at h; subst h
      exact ⟨.int k (k.wrap (x.tdiv y)), by simp [Go.binOp, Op.intDiv, h0], by simp only [VR]⟩
  | rem =>
    by_cases h0 : y = 0
    · simp [intArith, h0] at h
    · simp only [intArith, h0, if_false, Option.some.injEq] at h; subst h
      exact ⟨.int k (x.tmod y), by simp [Go.binOp, Op.intDiv, h0], by simp only [VR]⟩
  | add => simp only [intArith, Option.some.injEq, wrapI_eq] at h; subst h; exact ⟨_, by simp [Go.binOp, Op.intArith]; rfl, by simp only [VR]⟩
  | sub => simp only [intArith, Option.some.injEq, wrapI_eq] at h; subst h; exact ⟨_, by simp [Go.binOp, Op.intArith]; rfl, by simp only [VR]⟩
  | mul => simp only [intArith, Option.some.injEq, wrapI_eq] at h; subst h; exact ⟨_, by simp [Go.binOp, Op.intArith]; rfl, by simp only [VR]⟩
  | and => simp only [intArith, Option.some.injEq, wrapI_eq] at h; subst h; exact ⟨_, by simp only [Go.binOp, ne_eq, not_true_eq_false, if_false, Op.intBits, Sem.run_pure]; rfl, by simp only [VR]⟩
  | or => simp only [intArith, Option.some.injEq, wrapI_eq] at h; subst h; exact ⟨_, by simp only [Go.binOp, ne_eq, not_true_eq_false, if_false, Op.intBits, Sem.run_pure]; rfl, by simp only [VR]⟩
  | xor => simp only [intArith, Option.some.injEq, wrapI_eq] at h; subst h; exact ⟨_, by simp only [Go.binOp, ne_eq, not_true_eq_false, if_false, Op.intBits, Sem.run_pure]; rfl, by simp only [VR]⟩
  | andNot => simp only [intArith, Option.some.injEq, wrapI_eq] at h; subst h; exact ⟨_, by simp only [Go.binOp, ne_eq, not_true_eq_false, if_false, Op.intBits, Sem.run_pure]; rfl, by simp only [VR]⟩
  | eql => simp only [intArith, Option.some.injEq] at h; subst h; exact ⟨_, by simp only [Go.binOp, ne_eq, not_true_eq_false, if_false, Op.intCmp, Sem.run_pure]; rfl, by simp only [VR]⟩
  | neq => simp only [intArith, Option.some.injEq] at h; subst h; exact ⟨_, by simp only [Go.binOp, ne_eq, not_true_eq_false, if_false, Op.intCmp, Sem.run_pure]; rfl, by simp only [VR]⟩
  | lss => simp only [intArith, Option.some.injEq] at h; subst h; exact ⟨_, by simp only [Go.binOp, ne_eq, not_true_eq_false, if_false, Op.intCmp, Sem.run_pure]; rfl, by simp only [VR]⟩
  | leq => simp only [intArith, Option.some.injEq] at h; subst h; exact ⟨_, by simp only [Go.binOp, ne_eq, not_true_eq_false, if_false, Op.intCmp, Sem.run_pure]; rfl, by simp only [VR]⟩
  | gtr => simp only [intArith, Option.some.injEq] at h; subst h; exact ⟨_, by simp only [Go.binOp, ne_eq, not_true_eq_false, if_false, Op.intCmp, Sem.run_pure]; rfl, by simp only [VR]⟩
  | geq => simp only [intArith, Option.some.injEq] at h; subst h; exact ⟨_, by simp only [Go.binOp, ne_eq, not_true_eq_false, if_false, Op.intCmp, Sem.run_pure]; rfl, by simp only [VR]⟩

theorem sim_arith {op : BinOp} {xv yv r : AVal} (h : arith op xv yv = some r) {x y : Value} (hx : VR w0 ν xv x) (hy : VR w0 ν yv y) (t : TypeId) :
    ∃ v, (Go.binOp op t x y).run P w = .ok v w ∧ VR w0 ν r v := by
  unfold arith at h
  split at h
  · rename_i k a k' b
    simp only [VR] at hx hy
    subst hx; subst hy
    split at h
    · unfold shiftI at h
      split at h
      · simp at h
      · rename_i h0
        simp at h; subst h
        simp only [wrapI_eq]
        exact ⟨_, by simp [Go.binOp, Op.shift, h0]; rfl, by simp only [VR]⟩
    · unfold shiftI at h
      split at h
      · simp at h
      · rename_i h0
        simp at h; subst h
        exact ⟨_, by simp [Go.binOp, Op.shift, h0]; rfl, by simp only [VR]⟩
    · rename_i h1 h2
      split at h
      · rename_i hk; subst hk
        exact sim_intArith h ⟨fun e => h1 e, fun e => h2 e⟩ t
      · simp at h
  · simp at h

theorem bytes_toList (x : ByteArray) : x.toList = x.data.toList := by
  have : ∀ (n i : Nat) (r : List UInt8), n = x.size - i → ByteArray.toList.loop x i r = r.reverse ++ x.data.toList.drop i := by
    intro n
    induction n with
    | zero =>
      intro i r h
      unfold ByteArray.toList.loop
      have hi : x.size ≤ i := by omega
      rw [if_neg (by omega), List.drop_eq_nil_of_le (by simpa using hi)]
      simp
    | succ n ih =>
      intro i r h
      unfold ByteArray.toList.loop
      have hi : i < x.size := by omega
      rw [if_pos hi, ih (i + 1) _ (by omega)]
      have : x.data.toList.drop i = x.get! i :: x.data.toList.drop (i + 1) := by
        have hi' : i < x.data.toList.length := by simpa using hi
        rw [List.drop_eq_getElem_cons hi']
        congr 1
        show x.data.toList[i] = x.data.get!Internal i
        simp [Array.get!Internal_eq_getElem!, hi]
      rw [this]; simp
  exact (this x.size 0 [] rfl).trans (by simp)

theorem map_inj {a b : List UInt8} (h : a.map (·.toNat) = b.map (·.toNat)) : a = b := by
  induction a generalizing b with
  | nil => cases b <;> simp at h; rfl
  | cons x xs ih =>
    cases b with
    | nil => simp at h
    | cons y ys =>
      simp at h
      rw [ih h.2, UInt8.toNat_inj.1 h.1]

theorem eqBytes_beq (a b : ByteArray) : eqBytes (bytesOf a) (bytesOf b) = (a.toList == b.toList) := by
  rw [Bool.eq_iff_iff, eqBytes_eq, beq_iff_eq, bytes_toList, bytes_toList]
  exact ⟨map_inj, fun h => by unfold bytesOf; rw [h]⟩

theorem bytes_append (a b : ByteArray) : bytesOf (a ++ b) = bytesOf a ++ bytesOf b := by simp [bytesOf]

theorem sim_strop {op : BinOp} {xv yv r : AVal} (h : strop op xv yv = some r) {x y : Value} (hx : VR w0 ν xv x) (hy : VR w0 ν yv y) (t : TypeId) :
    ∃ v, (Go.binOp op t x y).run P w = .ok v w ∧ VR w0 ν r v := by
  unfold strop at h
  split at h
  · rename_i s t'
    simp only [VR] at hx hy
    obtain ⟨a, rfl, rfl⟩ := hx
    obtain ⟨b, rfl, rfl⟩ := hy
    have hlt : ltBytes (bytesOf a) (bytesOf b) = Op.bytesLess a.toList b.toList := by
      rw [bytes_toList, bytes_toList]; exact ltBytes_eq _ _
    have heq := eqBytes_beq a b
    have hmx : IntKind.i64.max = 9223372036854775807 := by decide
    cases op with
    | add =>
      simp only at h
      split at h
      · rename_i hc
        simp at h; subst h
        rw [lenL_eq, lenL_eq, bytesOf_length, bytesOf_length] at hc
        refine ⟨.string (a ++ b), ?_, by simp only [VR]; exact ⟨_, rfl, bytes_append a b⟩⟩
        have hno : ¬ (((a.size + b.size : Nat) : Int) > IntKind.i64.max) := by rw [hmx]; omega
        simp only [Go.binOp, Op.stringOp]
        rw [if_neg hno]
        rfl
      · simp at h
    | eql => simp only [Option.some.injEq, heq] at h; subst h; exact ⟨_, rfl, by simp only [VR]⟩
    | neq => simp only [Option.some.injEq, heq] at h; subst h; exact ⟨_, rfl, by simp only [VR]⟩
    | lss => simp only [Option.some.injEq, hlt] at h; subst h; exact ⟨_, rfl, by simp only [VR]⟩
    | leq => simp only [Option.some.injEq, hlt, heq] at h; subst h; exact ⟨_, rfl, by simp only [VR]⟩
    | gtr => simp only [Option.some.injEq, hlt, heq] at h; subst h; exact ⟨_, rfl, by simp only [VR]⟩
    | geq => simp only [Option.some.injEq, hlt] at h; subst h; exact ⟨_, rfl, by simp only [VR]⟩
    | _ => simp at h
  · simp at h

theorem sim_eqGuard (op : BinOp) (t : TypeId) (x y : Operand) {a b : Value} (h : (∀ cs, a ≠ .agg cs) ∧ ¬ (a = .nilIface ∧ b = .nilIface)) : (eqGuard op t x y a b).run P w = .ok () w := by
  unfold eqGuard
  cases op <;> simp
  all_goals
    split
    · exact absurd ⟨rfl, rfl⟩ h.2
    · exact absurd rfl (h.1 _)
    · rfl

theorem noagg_int {v : AVal} {x : Value} (h : VR w0 ν v x) (hv : ∃ k n, v = .int k n) : (∀ cs, x ≠ .agg cs) ∧ ∀ b, ¬ (x = .nilIface ∧ b = Value.nilIface) := by
  obtain ⟨k, n, rfl⟩ := hv
  simp only [VR] at h; subst h
  exact ⟨fun cs h => by simp at h, fun b h => by simp at h⟩
end
end Go.Ab
