/- The abstract machine, part 7: each operation that makes or reads memory does in the world what the abstract one does. -/
import Derived.Test.YthbanbnmomcohaaGreatDoorA1
import Derived.Laws.Slices
namespace Go.Ab
open Go Go.RowKit

theorem eqBytes_nil : eqBytes [] [] = true := rfl
theorem eqBytes_nil_cons (y : Nat) (ys : List Nat) : eqBytes [] (y :: ys) = false := rfl
theorem eqBytes_cons_nil (x : Nat) (xs : List Nat) : eqBytes (x :: xs) [] = false := rfl
theorem eqBytes_cons (x : Nat) (xs : List Nat) (y : Nat) (ys : List Nat) : eqBytes (x :: xs) (y :: ys) = (Nat.beq x y && eqBytes xs ys) := by
  have e : eqBytes (x :: xs) (y :: ys) = Bool.rec (motive := fun _ => Bool) false (eqBytes xs ys) (Nat.beq x y) := rfl
  rw [e]; cases Nat.beq x y <;> rfl
theorem eqBytes_eq : ∀ {a b : List Nat}, eqBytes a b = true ↔ a = b
  | [], [] => by simp [eqBytes_nil]
  | [], _ :: _ => by simp [eqBytes_nil_cons]
  | _ :: _, [] => by simp [eqBytes_cons_nil]
  | x :: xs, y :: ys => by
    rw [eqBytes_cons, Bool.and_eq_true, eqBytes_eq (a := xs)]
    simp
theorem eqBools_eq : ∀ {a b : List Bool}, eqBools a b = true → a = b
  | [], [], _ => rfl
  | [], _ :: _, h => by simp [eqBools] at h
  | _ :: _, [], h => by simp [eqBools] at h
  | x :: xs, y :: ys, h => by
    simp only [eqBools, Bool.and_eq_true, beq_iff_eq] at h
    rw [h.1, eqBools_eq h.2]

mutual
theorem eqA_eq : ∀ (a b : AVal), eqA a b = true → a = b
  | .bool _, b, h => by cases b <;> simp [eqA] at h; simp [h]
  | .int _ _, b, h => by cases b <;> simp [eqA] at h; simp [h]
  | .str _, b, h => by cases b <;> simp [eqA] at h; rw [eqBytes_eq.1 h]
  | .nilp, b, h => by cases b <;> simp [eqA] at h; rfl
  | .ptr _ _, b, h => by cases b <;> simp [eqA] at h; simp [h]
  | .rptr xs, b, h => by
    cases b <;> simp [eqA] at h
    rename_i ys; rw [eqAs_eq xs ys h]
  | .nils, b, h => by cases b <;> simp [eqA] at h; rfl
  | .slice _ _ _ _, b, h => by cases b <;> simp [eqA] at h; simp [h]
  | .rslice _ xs, b, h => by
    cases b <;> simp [eqA] at h
    rename_i m ys; rw [h.1, eqAs_eq xs ys h.2]
  | .func _ xs ys, b, h => by
    cases b <;> simp [eqA] at h
    rename_i g us vs; rw [h.1.1, eqAs_eq xs us h.1.2, eqAs_eq ys vs h.2]
  | .nilf, b, h => by cases b <;> simp [eqA] at h; rfl
  | .iface _ x, b, h => by
    cases b <;> simp [eqA] at h
    rename_i u y; rw [h.1, eqA_eq x y h.2]
  | .nili, b, h => by cases b <;> simp [eqA] at h; rfl
  | .agg xs, b, h => by
    cases b <;> simp [eqA] at h
    rename_i ys; rw [eqAs_eq xs ys h]
  | .tuple xs, b, h => by
    cases b <;> simp [eqA] at h
    rename_i ys; rw [eqAs_eq xs ys h]
theorem eqAs_eq : ∀ (a b : List AVal), eqAs a b = true → a = b
  | [], [], _ => rfl
  | [], _ :: _, h => by simp [eqAs] at h
  | _ :: _, [], h => by simp [eqAs] at h
  | x :: xs, y :: ys, h => by
    simp only [eqAs, Bool.and_eq_true] at h
    rw [eqA_eq x y h.1, eqAs_eq xs ys h.2]
end

/-! ## What an operation gives -/
def Gives (P : Program) (w0 : World) (ν : List Place) (σ' : St) (v : AVal) (s : Sem Value) (w : World) : Prop :=
  ∃ ν' x w', ν <+: ν' ∧ VR w0 ν' v x ∧ Rel w0 ν' σ' w' ∧ s.run P w = .ok x w'

section
variable {P : Program} {w0 w : World} {ν : List Place} {σ : St}

theorem Gives.same {v : AVal} {x : Value} {s : Sem Value} (hrel : Rel w0 ν σ w) (hv : VR w0 ν v x) (h : s.run P w = .ok x w) : Gives P w0 ν σ v s w :=
  ⟨ν, x, w, List.prefix_refl _, hv, hrel, h⟩

theorem VR_undef : VR w0 ν undefA undef := by unfold undefA undef; simp only [VR]; exact ⟨[], rfl, by simp [VRs]⟩

theorem VR_cells {v : AVal} {x : Value} (h : VR w0 ν v x) : VRs w0 ν v.cells x.cells.toList := by
  cases v with
  | agg cs =>
    simp only [VR] at h
    obtain ⟨xs, rfl, hxs⟩ := h
    simpa [AVal.cells, Value.cells] using hxs
  | _ =>
    have hx : x.cells = #[x] := by
      cases x <;> first | rfl | (simp only [VR] at h; simp at h)
    rw [hx]
    simp only [AVal.cells, VRs]
    exact ⟨x, [], rfl, h, rfl⟩

theorem VR_one {v : AVal} {x : Value} (h : VR w0 ν v x) (h1 : v.one = true) : x.oneCell' = true := by
  cases v <;> simp [AVal.one] at h1 <;> simp only [VR] at h
  all_goals first
    | (subst h; rfl)
    | (obtain ⟨_, rfl, _⟩ := h; rfl)
    | (obtain ⟨_, _, rfl⟩ := h; rfl)
    | (obtain ⟨_, _, rfl, _⟩ := h; rfl)
    | (obtain ⟨_, _, _, rfl, _⟩ := h; rfl)
    | (obtain ⟨_, _, _, _, rfl, _⟩ := h; rfl)

/-- A new row of cells. -/
theorem Rel.new_row (hrel : Rel w0 ν σ w) (t : TypeId) (c : Array Value) (as : List AVal) (fix : Bool) (hc : ∀ (j : Nat) (a : AVal), as[j]? = some a → ∃ x, c[j]? = some x ∧ VR w0 ν a x)
    (hl : as.length ≤ c.size) (hf : fix = true → c.size = as.length) : Rel w0 (ν ++ [⟨w.heap.size, 0, c.size⟩]) (σ.new (.cells fix t as)) (w.alloc (.cells c t)) := by
  refine hrel.new _ _ ⟨w.heap.size, 0, c.size⟩ rfl ((Below.refl _ _).alloc hrel.below.size _) (fun k hk => Below.heap_alloc _ _ _ hk) ?_
  refine ⟨hl, c, (0, 0), by show (w.heap.push _)[w.heap.size]? = _; simp, by simp, fun j _ => by simp, fun j a ha => ?_, fun h => ⟨rfl, hf h, hf h, .inl rfl⟩⟩
  obtain ⟨x, hx, hax⟩ := hc j a ha
  exact ⟨x, by simpa using hx, VR_mono (List.prefix_append _ _) a x hax⟩

theorem Rel.new_vals (hrel : Rel w0 ν σ w) (t : TypeId) (c : Array Value) (as : List AVal) (h : VRs w0 ν as c.toList) : Rel w0 (ν ++ [⟨w.heap.size, 0, c.size⟩]) (σ.new (.cells true t as)) (w.alloc (.cells c t)) := by
  have hl : c.size = as.length := by rw [← VRs_length h]; simp
  refine hrel.new_row t c as true (fun j a ha => ?_) (Nat.le_of_eq hl.symm) (fun _ => hl)
  obtain ⟨x, hx, hax⟩ := VRs_get h ha
  exact ⟨x, by simpa using hx, hax⟩

theorem new_get (hrel : Rel w0 ν σ w) (p : Place) : (ν ++ [p])[σ.next]? = some p := by rw [hrel.next]; simp

theorem VR_newptr (hrel : Rel w0 ν σ w) (n : Nat) : VR w0 (ν ++ [⟨w.heap.size, 0, n⟩]) (.ptr σ.next 0) (.pointer (some ⟨w.heap.size, 0, none⟩)) := by
  simp only [VR]; exact ⟨_, new_get hrel _, rfl⟩

theorem VR_newslice (hrel : Rel w0 ν σ w) (n cap s ext : Nat) (h1 : n ≤ cap) (h2 : cap * s ≤ ext) (hs : 0 < s) : VR w0 (ν ++ [⟨w.heap.size, 0, ext⟩]) (.slice σ.next 0 n s) (.slice (some ⟨w.heap.size, 0, none⟩) n cap) := by
  simp only [VR]; exact ⟨_, _, cap, new_get hrel _, rfl, h1, hs, by simpa using h2, .inr rfl⟩

theorem sim_alloc (hrel : Rel w0 ν σ w) {t : TypeId} {ti : TI} (ht : OkTI P t ti) : Gives P w0 ν (σ.new (.cells true t ti.zero)) (.ptr σ.next 0) (Instr.alloc t true (.tuple #[])) w := by
  obtain ⟨z, hz, ha⟩ := ht.zero w
  refine ⟨_, .pointer (some ⟨w.heap.size, 0, none⟩), w.alloc (.cells z.cells t), List.prefix_append _ _, VR_newptr hrel _, hrel.new_vals t z.cells ti.zero (avals_VRs ha), ?_⟩
  simp [Instr.alloc, hz, newVar, newRow]

theorem sim_box (hrel : Rel w0 ν σ w) (t : TypeId) {v : AVal} {x : Value} (hx : VR w0 ν v x) : Gives P w0 ν (σ.new (.cells true t v.cells)) (.ptr σ.next 0) (Instr.box t x) w := by
  refine ⟨_, .pointer (some ⟨w.heap.size, 0, none⟩), w.alloc (.cells x.cells t), List.prefix_append _ _, VR_newptr hrel _, hrel.new_vals t x.cells v.cells (VR_cells hx), ?_⟩
  simp [Instr.box, newVar, newRow]

/-! ## Loads -/
theorem sim_load_ptr (hrel : Rel w0 ν σ w) {t : TypeId} {ti : TI} (ht : OkTI P t ti) {b i : Nat} {f : Bool} {e : TypeId} {cs l : List AVal} (hb : σ.get b = some (.cells f e cs)) (hd : dropX i cs = some l)
    {v : AVal} (hl : loadL ti.aggN l = some v) {x : Value} (hx : VR w0 ν (.ptr b i) x) : Gives P w0 ν σ v (Instr.loadAt t x) w := by
  simp only [VR] at hx
  obtain ⟨p, hp, rfl⟩ := hx
  obtain ⟨_, rfl⟩ := dropX_eq.1 hd
  obtain ⟨y, hy, hvy⟩ := load_sim (P := P) ht ((hrel.cellsAt hb hp).drop i) hl
  exact .same hrel hvy (by simp [Instr.loadAt, Instr.sureAddr, hy])

theorem sim_load_rptr (hrel : Rel w0 ν σ w) {t : TypeId} {ti : TI} (ht : OkTI P t ti) {cs : List AVal} {v : AVal} (hl : loadL ti.aggN cs = some v) {x : Value} (hx : VR w0 ν (.rptr cs) x) : Gives P w0 ν σ v (Instr.loadAt t x) w := by
  simp only [VR] at hx
  obtain ⟨r, o, rfl, hro⟩ := hx
  obtain ⟨y, hy, hvy⟩ := load_sim (P := P) ht (hro.at hrel.below) hl
  exact .same hrel hvy (by simp [Instr.loadAt, Instr.sureAddr, hy])

/-! ## Stores -/
/-- Values written one behind the other. -/
def wr (w : World) (r o : Nat) : List Value → World
  | [] => w
  | v :: vs => wr (w.setCell ⟨r, o, none⟩ v) r (o + 1) vs

theorem wr_block (r : Nat) : ∀ (vs : List Value) (w : World) (o : Nat) (c : Array Value) (e : TypeId) (fr : Nat × Nat), w.heap[r]? = some (.cells c e fr) → o + vs.length ≤ c.size →
    ∃ c', (wr w r o vs).heap[r]? = some (.cells c' e fr) ∧ c'.size = c.size ∧ (∀ j, j < o → c'[j]? = c[j]?) ∧ (∀ (j : Nat) (v : Value), vs[j]? = some v → c'[o + j]? = some v) ∧ (∀ j, o + vs.length ≤ j → c'[j]? = c[j]?)
  | [], w, o, c, e, fr, h, _ => ⟨c, h, rfl, fun _ _ => rfl, by simp, fun _ _ => rfl⟩
  | v :: vs, w, o, c, e, fr, h, hl => by
    have h1 : (w.setCell ⟨r, o, none⟩ v).heap[r]? = some (.cells (c.setIfInBounds o v) e fr) := by
      simp [World.setCell, Array.getElem?_modify, h]
    have hlen : (v :: vs).length = vs.length + 1 := rfl
    obtain ⟨c', hc, hs, ha, hb, hd⟩ := wr_block r vs (w.setCell ⟨r, o, none⟩ v) (o + 1) _ e fr h1 (by simp; omega)
    refine ⟨c', hc, by simpa using hs, fun j hj => ?_, fun j u hu => ?_, fun j hj => ?_⟩
    · rw [ha j (by omega), Array.getElem?_setIfInBounds, if_neg (by omega)]
    · cases j with
      | zero =>
        simp at hu; subst hu
        rw [Nat.add_zero, ha o (by omega), Array.getElem?_setIfInBounds, if_pos rfl, if_pos (by omega)]
      | succ j =>
        rw [show o + (j + 1) = o + 1 + j by omega]
        exact hb j u (by simpa using hu)
    · rw [hd j (by omega), Array.getElem?_setIfInBounds, if_neg (by omega)]

theorem wr_other (r : Nat) : ∀ (vs : List Value) (w : World) (o k : Nat), k ≠ r → (wr w r o vs).heap[k]? = w.heap[k]?
  | [], _, _, _, _ => rfl
  | v :: vs, w, o, k, h => by
    show (wr (w.setCell ⟨r, o, none⟩ v) r (o + 1) vs).heap[k]? = _
    rw [wr_other r vs _ _ k h, Below.heap_setCell _ _ _ _ h]

theorem wr_below {B r : Nat} (hr : B ≤ r) : ∀ (vs : List Value) (w : World) (o : Nat), Below B w (wr w r o vs)
  | [], _, _ => Below.refl _ _
  | v :: vs, w, o => (Below.setCell (Below.refl B w) (p := ⟨r, o, none⟩) hr v).trans (wr_below hr vs _ _)

theorem run_storeCells_wr (P : Program) (r : Nat) : ∀ (vs : List Value) (w : World) (o i : Nat) (c : Array Value) (e : TypeId) (fr : Nat × Nat), w.heap[r]? = some (.cells c e fr) → o + i + vs.length ≤ c.size →
    (∀ j, j < vs.length → ¬ (fr.1 ≤ o + i + j ∧ o + i + j < fr.2)) → (∀ v ∈ vs, v.oneCell' = true) → (storeCells ⟨r, o, none⟩ vs i).run P w = .ok () (wr w r (o + i) vs)
  | [], w, o, i, c, e, fr, _, _, _, _ => by simp [storeCells, wr]
  | v :: vs, w, o, i, c, e, fr, h, hl, hfr, h1 => by
    have hlen : (v :: vs).length = vs.length + 1 := rfl
    have hlt : o + i < c.size := by omega
    have hcell : w.cell? ⟨r, o + i, none⟩ = some c[o + i] := by simp [World.cell?, h, hlt]
    have hfz : w.frozen? ⟨r, o + i, none⟩ = false := by
      have := hfr 0 (by omega)
      simp only [World.frozen?, h]
      simp only [Nat.add_zero] at this
      rw [Bool.and_eq_false_iff]
      by_cases ha : fr.1 ≤ o + i
      · right; simp; omega
      · left; simp; omega
    have hset : (w.setCell ⟨r, o + i, none⟩ v).heap[r]? = some (.cells (c.setIfInBounds (o + i) v) e fr) := by
      simp [World.setCell, Array.getElem?_modify, h]
    have ih := run_storeCells_wr P r vs (w.setCell ⟨r, o + i, none⟩ v) o (i + 1) _ e fr hset (by simp; omega) (fun j hj => by
      have := hfr (j + 1) (by omega)
      rwa [show o + i + (j + 1) = o + (i + 1) + j by omega] at this) (fun u hu => h1 u (List.mem_cons_of_mem _ hu))
    simp only [storeCells, Sem.run_bind, add_plain]
    rw [run_store P w _ v _ (h1 v (List.mem_cons_self ..)), hcell]
    simp only [hfz, Bool.false_eq_true, if_false, Result.andThen_ok]
    rw [ih]
    rfl

theorem allOne_mem : ∀ {cs : List AVal}, allOne cs = true → ∀ c ∈ cs, c.one = true
  | [], _, c, hc => by simp at hc
  | d :: cs, h, c, hc => by
    simp only [allOne, Bool.and_eq_true] at h
    rcases List.mem_cons.1 hc with rfl | hc
    · exact h.1
    · exact allOne_mem h.2 c hc

theorem VRs_one {as : List AVal} {vs : List Value} (h : VRs w0 ν as vs) (h1 : allOne as = true) : ∀ v ∈ vs, v.oneCell' = true := by
  intro v hv
  obtain ⟨j, hj⟩ := List.getElem?_of_mem hv
  obtain ⟨hl, hg⟩ := VRs_iff.1 h
  have hjl : j < as.length := by rw [← hl]; exact (List.getElem?_eq_some_iff.1 hj).1
  have ha : as[j]? = some as[j] := by simp [hjl]
  exact VR_one (hg j _ v ha hj) (allOne_mem h1 _ (List.getElem_mem hjl))

theorem sim_store (hrel : Rel w0 ν σ w) {t : TypeId} {ti : TI} (ht : OkTI P t ti) {b i : Nat} {f : Bool} {e : TypeId} {cs cs' : List AVal} (hb : σ.get b = some (.cells f e cs)) {v : AVal} {u : Value}
    (hv : VR w0 ν v u) (hn : lenL v.cells = ti.size) (h1 : allOne v.cells = true) (hp : putX i cs v.cells = some cs') {x : Value} (hx : VR w0 ν (.ptr b i) x) :
    ∃ w', (Instr.storeAt t x u).run P w = .ok () w' ∧ Rel w0 ν (σ.put b (.cells f e cs')) w' := by
  simp only [VR] at hx
  obtain ⟨p, hp', rfl⟩ := hx
  have hcells := VR_cells hv
  have hlen := VRs_length hcells
  obtain ⟨q, hq, hq0, ho⟩ := hrel.live b _ hb
  rw [hp'] at hq; cases hq
  obtain ⟨hcl, c, fr, hc, hext, hfr, hcv, hfix⟩ := ho
  rw [lenL_eq] at hn
  have hsz : u.cells.size = ti.size := by
    have : u.cells.toList.length = u.cells.size := by simp
    omega
  rcases putX_eq hp with ⟨h0, hr⟩ | ⟨hle, hr⟩
  · -- nothing is written
    subst hr
    rw [h0] at hcells hn
    simp only [VRs] at hcells
    refine ⟨w, ?_, ?_⟩
    · simp [Instr.storeAt, Instr.sureAddr, storeVar, ht.sizeOf, hsz, hcells, storeCells]
    · refine hrel.put hb hp' (Below.refl _ _) (fun _ _ => rfl) ⟨hcl, c, fr, hc, hext, hfr, hcv, hfix⟩
  · subst hr
    have hbound : p.off + i + u.cells.toList.length ≤ c.size := by omega
    have hrun := run_storeCells_wr P p.block u.cells.toList w (p.off + i) 0 c e fr hc (by simpa using hbound) (fun j hj => by
      have := hfr (i + j) (by omega)
      simpa [Nat.add_assoc] using this) (VRs_one hcells h1)
    obtain ⟨c', hc', hs', ha, hbd, hd⟩ := wr_block p.block u.cells.toList w (p.off + i) c e fr hc hbound
    refine ⟨wr w p.block (p.off + i) u.cells.toList, ?_, ?_⟩
    · simp only [Instr.storeAt, Instr.sureAddr, storeVar, Sem.run_bind, Sem.run_pure, Result.andThen_ok, ht.sizeOf, hsz, ne_eq, not_true_eq_false, if_false]
      exact hrun
    · have hll : (cs.take i ++ v.cells ++ cs.drop (i + v.cells.length)).length = cs.length := by
        simp only [List.length_append, List.length_take, List.length_drop]; omega
      refine hrel.put hb hp' (wr_below (by omega) _ _ _) (fun k hk => wr_other _ _ _ _ _ hk) ⟨by rw [hll]; exact hcl, c', fr, hc', by omega, hfr, fun j a hja => ?_, fun hf => ?_⟩
      · by_cases hj1 : j < i
        · rw [List.append_assoc, List.getElem?_append_left (by simp; omega), List.getElem?_take, if_pos hj1] at hja
          obtain ⟨y, hy, hay⟩ := hcv j a hja
          exact ⟨y, by rw [ha _ (by omega)]; exact hy, hay⟩
        · by_cases hj2 : j < i + v.cells.length
          · have hmin : min i cs.length = i := by omega
            rw [List.append_assoc, List.getElem?_append_right (by simp; omega), List.length_take, hmin, List.getElem?_append_left (by omega)] at hja
            obtain ⟨y, hy, hay⟩ := VRs_get hcells hja
            refine ⟨y, ?_, hay⟩
            have := hbd (j - i) y hy
            rwa [show p.off + i + (j - i) = p.off + j by omega] at this
          · have hmin : min i cs.length = i := by omega
            rw [List.getElem?_append_right (by simp; omega)] at hja
            simp only [List.length_append, List.length_take, hmin, List.getElem?_drop] at hja
            rw [show i + v.cells.length + (j - (i + v.cells.length)) = j by omega] at hja
            obtain ⟨y, hy, hay⟩ := hcv j a hja
            exact ⟨y, by rw [hd _ (by omega)]; exact hy, hay⟩
      · obtain ⟨h1, h2, h3, h4⟩ := hfix hf
        exact ⟨h1, by omega, by omega, by rw [hs']; exact h4⟩
end
end Go.Ab

/- The abstract machine, part 8: append. -/
namespace Go.Ab
open Go Go.RowKit
section
variable {P : Program} {w0 w : World} {ν : List Place} {σ : St}

theorem bytesOf_length (x : ByteArray) : (bytesOf x).length = x.size := by simp [bytesOf]

theorem VRs_bytes (x : ByteArray) : VRs w0 ν (cellsOfBytes (bytesOf x)) (x.data.toList.map fun b => .int .u8 b.toNat) := by
  rw [VRs_iff]
  refine ⟨by simp [cellsOfBytes, bytesOf], ?_⟩
  intro j a v ha hv
  simp only [cellsOfBytes, bytesOf, List.map_map, List.getElem?_map, Option.map_eq_some_iff] at ha hv
  obtain ⟨y, hy, rfl⟩ := ha
  obtain ⟨z, hz, rfl⟩ := hv
  rw [hy] at hz; cases hz
  simp

/-- What a slice or a string hands to append, to copy. -/
theorem cells_sim (hrel : Rel w0 ν σ w) {s n : Nat} {l : List AVal} {v : AVal} {y : Value} (h : cellsIn σ s v = some (n, l)) (hv : VR w0 ν v y) :
    (Builtin.lenOf y).run P w = .ok n w ∧ ∃ vs : List Value, VRs w0 ν l vs ∧ (Builtin.firstCells s n y).run P w = .ok vs.toArray w ∧ l.length = n * s := by
  unfold cellsIn at h
  split at h
  · -- nil
    simp at h; obtain ⟨rfl, rfl⟩ := h
    simp only [VR] at hv; subst hv
    exact ⟨rfl, [], by simp [VRs], rfl, by simp⟩
  · rename_i b i n' s'
    split at h
    · rename_i hss; subst hss
      split at h
      · rename_i f e cs hb
        split at h
        · rename_i l' hsub
          simp at h; obtain ⟨rfl, rfl⟩ := h
          simp only [VR] at hv
          obtain ⟨p, a, cap, hp, rfl, hn, h0, hext, ha⟩ := hv
          obtain ⟨hle, rfl⟩ := sub_eq.1 hsub
          have hlen : ((cs.drop i).take (n' * s)).length = n' * s := by simp; omega
          refine ⟨rfl, ?_⟩
          rcases ha with ha | rfl
          · have hn0 : n' = 0 := by omega
            subst hn0
            simp only [Nat.zero_mul, List.take_zero]
            refine ⟨[], by simp [VRs], ?_, rfl⟩
            simp [Builtin.firstCells, loadCells, loadCellsFrom]
          · obtain ⟨vs, hvs, hrun⟩ := run_loadCells_at (P := P) (((hrel.cellsAt hb hp).drop i).take (n' * s))
            rw [hlen] at hrun
            exact ⟨vs, hvs, by simpa [Builtin.firstCells] using hrun, hlen⟩
        · simp at h
      · simp at h
    · simp at h
  · rename_i n' cs
    split at h
    · rename_i l' htk
      simp at h; obtain ⟨rfl, rfl⟩ := h
      simp only [VR] at hv
      obtain ⟨ad, cap, rfl, hn, hro⟩ := hv
      obtain ⟨hle, rfl⟩ := takeX_eq.1 htk
      rcases hro with ⟨rfl, rfl⟩ | ⟨r, o, rfl, hro⟩
      · refine ⟨rfl, [], by simp [VRs], ?_, by simp⟩
        simp [Builtin.firstCells, loadCells, loadCellsFrom]
      have hlen : (cs.take (n' * s)).length = n' * s := by simp; omega
      obtain ⟨vs, hvs, hrun⟩ := run_loadCells_at (P := P) ((hro.at hrel.below).take (n' * s))
      rw [hlen] at hrun
      exact ⟨rfl, vs, hvs, by simpa [Builtin.firstCells] using hrun, hlen⟩
    · simp at h
  · rename_i t
    split at h
    · rename_i hs1
      simp at h; obtain ⟨rfl, rfl⟩ := h
      simp only [VR] at hv
      obtain ⟨x, rfl, rfl⟩ := hv
      subst hs1
      rw [lenL_eq, bytesOf_length]
      refine ⟨rfl, x.data.toList.map fun b => .int .u8 b.toNat, VRs_bytes x, ?_, by simp [cellsOfBytes, bytesOf]⟩
      have e : x.extract 0 x.size = x := by
        apply ByteArray.ext; simp
      simp only [Builtin.firstCells, e, Sem.run_pure]
      congr 1
      apply Array.ext'
      simp
    · simp at h
  · simp at h

theorem growBy_le (newLen : Nat) : ∀ (k c : Nat), 256 ≤ c → c < newLen → Builtin.growBy newLen k c ≤ 2 * newLen
  | 0, c, _, h => by simp [Builtin.growBy]; omega
  | k + 1, c, h1, h2 => by
    simp only [Builtin.growBy]
    rw [if_neg (by omega)]
    by_cases h : c + (c + 768) / 4 < newLen
    · exact growBy_le newLen k _ (by omega) h
    · cases k with
      | zero => simp [Builtin.growBy]; omega
      | succ k => simp only [Builtin.growBy]; rw [if_pos (by omega)]; omega

theorem nextslicecap_le {need cap : Nat} (h : cap < need) : Builtin.nextslicecap need cap ≤ 2 * need := by
  unfold Builtin.nextslicecap
  split
  · omega
  · split
    · omega
    · exact growBy_le need 4 cap (by omega) h

theorem Rel.drew (hrel : Rel w0 ν σ w) : Rel w0 ν σ w.drew := hrel.world (Below.refl _ _).drew fun _ => rfl

theorem zeroCells_size (z : Array Value) (n : Nat) : (Builtin.zeroCells z n).size = n * z.size := by simp [Builtin.zeroCells]

/-- append where the array has no room: a new one. -/
theorem sim_grow (hrel : Rel w0 ν σ w) {t u e : TypeId} {ti te tu : TI} (ht : OkTI P t ti) (hti : ti.d = .slice e) (he : OkTI P e te) (hz : te.zero.length = te.size) (hs : 0 < te.size)
    (hu : OkTI P u tu) (htu : ∀ k, tu.d ≠ .int k) {base : Option Addr} {n m cap : Nat} {old new : List AVal} {os ns : List Value} {y : Value} (_hn : n ≤ cap) (hcap : cap < n + m)
    (hold : (Builtin.firstCells te.size n (.slice base n cap)).run P w.drew = .ok os.toArray w.drew) (hos : VRs w0 ν old os) (hol : old.length = n * te.size)
    (hlen : (Builtin.lenOf y).run P w = .ok m w) (hnew : (Builtin.firstCells te.size m y).run P w.drew = .ok ns.toArray w.drew) (hns : VRs w0 ν new ns) (hnl : new.length = m * te.size)
    (hb : (n + m) * te.bytes ≤ 1099511627776) (hb0 : 0 < te.bytes) (args : Array TypeId) (hargs : args = #[t, u]) (ty : TypeId) :
    Gives P w0 ν (σ.new (.cells false e (old ++ new))) (.slice σ.next 0 (n + m) te.size) (Builtin.append_ args ty #[.slice base n cap, y]) w := by
  subst hargs
  obtain ⟨d, hd, hdd⟩ := ht.und
  obtain ⟨du, hdu, hddu⟩ := hu.und
  obtain ⟨z, hzr, hza⟩ := he.zero w.drew
  obtain ⟨i, hi, hib⟩ := he.typeInfo w
  have hi' : (Go.typeInfo e).run P w.drew = .ok i w.drew := by
    obtain ⟨i', hi', _⟩ := he.typeInfo (P := P) w.drew
    obtain ⟨j, _, hj, _⟩ := he.info
    rw [run_typeInfo _ hj] at hi ⊢
    cases hi; rfl
  have hde : d = .slice e := by
    rw [hti] at hdd
    cases d <;> simp [tdOf] at hdd
    rw [hdd]
  subst hde
  have hdui : ∀ k, du ≠ .int k := by
    intro k hk
    exact htu k (by rw [← hddu, hk]; rfl)
  have hzl : z.cells.size = te.size := by
    have := VRs_length (avals_VRs (w0 := w0) (ν := ν) hza)
    simp at this; omega
  have hnm : n + m ≤ 1099511627776 := Nat.le_trans (Nat.le_mul_of_pos_right _ hb0) hb
  have hcapn : ¬ (Builtin.nextslicecap (n + m) cap * i.bytes > 2 ^ 48) := by
    have h1 := nextslicecap_le hcap
    have h2 : Builtin.nextslicecap (n + m) cap * i.bytes ≤ 2 * (n + m) * i.bytes := Nat.mul_le_mul_right _ h1
    rw [hib] at *
    have h3 : 2 * (n + m) * te.bytes = 2 * ((n + m) * te.bytes) := by rw [Nat.mul_assoc]
    omega
  let q := Question.appendCap (n + m) cap e
  let nc := q.cut (w.tape w.drawn q)
  have hncdef : nc = (Question.appendCap (n + m) cap e).cut (w.tape w.drawn (Question.appendCap (n + m) cap e)) := rfl
  have hnc : n + m ≤ nc := by rw [hncdef]; simp [Question.cut]
  let row : Array Value := os.toArray ++ ns.toArray ++ Builtin.zeroCells z.cells (nc - (n + m))
  have hos' := VRs_length hos
  have hns' := VRs_length hns
  have hrow : row.size = nc * te.size := by
    show (os.toArray ++ ns.toArray ++ Builtin.zeroCells z.cells (nc - (n + m))).size = _
    rw [Array.size_append, Array.size_append, zeroCells_size, hzl]
    simp only [List.size_toArray]
    rw [hos', hns', hol, hnl, ← Nat.add_mul, ← Nat.add_mul]
    congr 1; omega
  have hrel' := hrel.drew
  have hsz : w.drew.heap.size = w.heap.size := rfl
  refine ⟨ν ++ [⟨w.heap.size, 0, row.size⟩], .slice (some ⟨w.heap.size, 0, none⟩) (n + m) nc, w.drew.alloc (.cells row e), List.prefix_append _ _, ?_, ?_, ?_⟩
  · exact VR_newslice hrel (n + m) nc te.size row.size hnc (by omega) hs
  · refine hrel'.new_row e row (old ++ new) false (fun j a ha => ?_) ?_ (by simp)
    · obtain ⟨x, hx, hax⟩ := VRs_get (VRs_append hos hns) ha
      refine ⟨x, ?_, hax⟩
      have hj : j < (os ++ ns).length := (List.getElem?_eq_some_iff.1 hx).1
      have : (os.toArray ++ ns.toArray)[j]? = some x := by simpa using hx
      show (os.toArray ++ ns.toArray ++ _)[j]? = some x
      rw [Array.getElem?_append_left (by simpa using hj)]
      exact this
    · rw [hrow, List.length_append, hol, hnl, ← Nat.add_mul]
      exact Nat.mul_le_mul_right _ hnc
  · have hmx : IntKind.i64.max = 9223372036854775807 := by decide
    have hf : (Question.appendCap (n + m) cap e).forced = false := rfl
    have hne : ¬ (n + m ≤ cap) := by omega
    have hno : ¬ (((n + m : Nat) : Int) > IntKind.i64.max ∧ (False ∨ i.bytes = 0)) := by rw [hmx]; omega
    unfold Builtin.append_
    simp only [List.getElem?_cons_zero, List.getElem?_cons_succ, Sem.run_bind, run_underlying hd, run_underlying hdu, he.sizeOf, Result.andThen_ok, Sem.run_pure, List.getElem?_toArray]
    cases du <;> first | (exact absurd rfl (hdui _)) | skip
    all_goals
      simp only [Bool.false_eq_true, if_false, hlen, Result.andThen_ok, hi, hne, hcapn, hno, Sem.run_bind, Sem.run_ite, Sem.run_pure, run_choose, hf, hi', run_askRoom, hold, hnew, hzr, newRow, run_newObj, World.drew_eq, Bool.not_false, if_true]
      rfl
end
end Go.Ab

/- The abstract machine, part 9: append with room; append whole. -/
namespace Go.Ab
open Go Go.RowKit
section
variable {P : Program} {w0 w : World} {ν : List Place} {σ : St}

/-- append where the array has room: written in place. -/
theorem sim_room (hrel : Rel w0 ν σ w) {t u e : TypeId} {ti te tu : TI} (ht : OkTI P t ti) (hti : ti.d = .slice e) (he : OkTI P e te)
    (hu : OkTI P u tu) (htu : ∀ k, tu.d ≠ .int k) {b i : Nat} {f : Bool} {cs old : List AVal} (hb : σ.get b = some (.cells f e cs)) {p : Place} (hp : ν[b]? = some p) {n m cap : Nat} {new : List AVal} {ns : List Value} {y : Value}
    (hsub : sub cs i (n * te.size) = some old) (hcap : n + m ≤ cap) (hext : i + cap * te.size ≤ p.ext) (hs : 0 < te.size)
    (hlen : (Builtin.lenOf y).run P w = .ok m w) (hnew : (Builtin.firstCells te.size m y).run P w = .ok ns.toArray w) (hns : VRs w0 ν new ns) (hnl : new.length = m * te.size) (hone : allOne new = true)
    (args : Array TypeId) (hargs : args = #[t, u]) (ty : TypeId) :
    Gives P w0 ν ((σ.kill b).new (.cells false e (old ++ new))) (.slice σ.next 0 (n + m) te.size) (Builtin.append_ args ty #[.slice (some ⟨p.block, p.off + i, none⟩) n cap, y]) w := by
  subst hargs
  obtain ⟨d, hd, hdd⟩ := ht.und
  obtain ⟨du, hdu, hddu⟩ := hu.und
  have hde : d = .slice e := by
    rw [hti] at hdd
    cases d <;> simp [tdOf] at hdd
    rw [hdd]
  subst hde
  have hdui : ∀ k, du ≠ .int k := by
    intro k hk
    exact htu k (by rw [← hddu, hk]; rfl)
  obtain ⟨hle, hold⟩ := sub_eq.1 hsub
  have hns' := VRs_length hns
  obtain ⟨q, hq, hq0, ho⟩ := hrel.live b _ hb
  rw [hp] at hq; cases hq
  obtain ⟨hcl, c, fr, hc, hce, hfr, hcv, _⟩ := ho
  have hmul : n * te.size + m * te.size ≤ cap * te.size := by rw [← Nat.add_mul]; exact Nat.mul_le_mul_right _ hcap
  have hbound : p.off + i + n * te.size + ns.length ≤ c.size := by omega
  have hrun := run_storeCells_wr P p.block ns w (p.off + i + n * te.size) 0 c e fr hc (by simpa using hbound) (fun j hj => by
    have := hfr (i + n * te.size + j) (by omega)
    simpa [Nat.add_assoc] using this) (VRs_one hns hone)
  obtain ⟨c', hc', hs', ha, hbd, hd'⟩ := wr_block p.block ns w (p.off + i + n * te.size) c e fr hc hbound
  have holdl : old.length = n * te.size := by rw [hold]; simp; omega
  let p' : Place := ⟨p.block, p.off + i, p.ext - i⟩
  have hin : i ≤ p.ext := by omega
  refine ⟨ν ++ [p'], .slice (some ⟨p.block, p.off + i, none⟩) (n + m) cap, wr w p.block (p.off + i + n * te.size) ns, List.prefix_append _ _, ?_, ?_, ?_⟩
  · simp only [VR]
    refine ⟨p', _, cap, new_get hrel _, rfl, hcap, hs, ?_, .inr rfl⟩
    show 0 + cap * te.size ≤ p.ext - i
    omega
  · refine hrel.take hb hp _ p' rfl (wr_below (by omega) _ _ _) (fun k hk => wr_other _ _ _ _ _ hk) ?_
    refine ⟨?_, c', fr, hc', ?_, ?_, ?_, by simp⟩
    · show (old ++ new).length ≤ p.ext - i
      rw [List.length_append, holdl, hnl]; omega
    · show p.off + i + (p.ext - i) ≤ c'.size
      omega
    · intro j hj
      have hj' : j < p.ext - i := hj
      have := hfr (i + j) (by omega)
      show ¬ (fr.1 ≤ p.off + i + j ∧ p.off + i + j < fr.2)
      rwa [← Nat.add_assoc] at this
    · intro j a hja
      by_cases hj : j < n * te.size
      · rw [List.getElem?_append_left (by omega), hold, List.getElem?_take, if_pos hj, List.getElem?_drop] at hja
        obtain ⟨x, hx, hax⟩ := hcv (i + j) a hja
        refine ⟨x, ?_, VR_mono (List.prefix_append _ _) a x hax⟩
        show c'[p.off + i + j]? = some x
        rw [ha _ (by omega), Nat.add_assoc]; exact hx
      · rw [List.getElem?_append_right (by omega), holdl] at hja
        obtain ⟨x, hx, hax⟩ := VRs_get hns hja
        refine ⟨x, ?_, VR_mono (List.prefix_append _ _) a x hax⟩
        have := hbd (j - n * te.size) x hx
        show c'[p.off + i + j]? = some x
        rwa [show p.off + i + n * te.size + (j - n * te.size) = p.off + i + j by omega] at this
  · unfold Builtin.append_
    simp only [List.getElem?_cons_zero, List.getElem?_cons_succ, Sem.run_bind, run_underlying hd, run_underlying hdu, he.sizeOf, Result.andThen_ok, Sem.run_pure, List.getElem?_toArray]
    cases du <;> first | (exact absurd rfl (hdui _)) | skip
    all_goals
      simp only [Bool.false_eq_true, if_false, hlen, Result.andThen_ok, Sem.run_bind, Sem.run_pure, hnew, Bool.not_false, if_true, hcap, add_plain]
      simp only [Nat.add_zero] at hrun
      rw [hrun]
      rfl

theorem VR_str_iff {v : AVal} {x : Value} {t : List Nat} (h : VR w0 ν v x) (hv : v = .str t) : ∃ s, x = .string s := by
  subst hv; simp only [VR] at h; obtain ⟨s, rfl, _⟩ := h; exact ⟨s, rfl⟩

/-- append, whole. -/
theorem sim_append (hrel : Rel w0 ν σ w) {t u e : TypeId} {ti te tu : TI} (ht : OkTI P t ti) (hti : ti.d = .slice e) (he : OkTI P e te) (hz : te.zero.length = te.size) (hs : 0 < te.size) (hb0 : 0 < te.bytes)
    (hu : OkTI P u tu) (htu : (∃ e', tu.d = .slice e') ∨ tu.d = .str) {xv yv : AVal} {x y : Value} (hx : VR w0 ν xv x) (hy : VR w0 ν yv y)
    {r : AVal} {σ' : St} (T : Tab) (env : Env) {xo yo : Opd} (hxo : xo.ev T env = xv) (hyo : yo.ev T env = yv) (h : opAppend T false e te.size te.bytes xo yo env σ = some (r, σ'))
    (args : Array TypeId) (hargs : args = #[t, u]) (ty : TypeId) :
    Gives P w0 ν σ' r (Builtin.append_ args ty #[x, y]) w := by
  have htui : ∀ k, tu.d ≠ .int k := by
    intro k hk
    rcases htu with ⟨e', he'⟩ | he' <;> rw [he'] at hk <;> simp at hk
  unfold opAppend at h
  simp only [Bool.false_eq_true, if_false, hxo, hyo] at h
  split at h
  · -- nothing is appended
    rename_i l hc
    obtain ⟨hlen, vs, hvs, hrun, hll⟩ := cells_sim (P := P) hrel hc hy
    have hvs0 : vs = [] := by
      have h1 := VRs_length hvs
      have : vs.length = 0 := by rw [h1, hll]; simp
      exact List.length_eq_zero_iff.1 this
    subst hvs0
    have key : ∀ (base : Option Addr) (n cap : Nat), n ≤ cap → x = .slice base n cap → VR w0 ν xv (.slice base n cap) → (Builtin.append_ args ty #[x, y]).run P w = .ok (.slice base n cap) w := by
      intro base n cap hn hxe _
      subst hxe; subst hargs
      obtain ⟨d, hd, hdd⟩ := ht.und
      obtain ⟨du, hdu, hddu⟩ := hu.und
      have hde : d = .slice e := by
        rw [hti] at hdd
        cases d <;> simp [tdOf] at hdd
        rw [hdd]
      subst hde
      have hdui : ∀ k, du ≠ .int k := by
        intro k hk
        exact htui k (by rw [← hddu, hk]; rfl)
      unfold Builtin.append_
      simp only [List.getElem?_cons_zero, List.getElem?_cons_succ, Sem.run_bind, run_underlying hd, run_underlying hdu, he.sizeOf, Result.andThen_ok, Sem.run_pure, List.getElem?_toArray]
      cases du <;> first | (exact absurd rfl (hdui _)) | skip
      all_goals
        simp only [Bool.false_eq_true, if_false, hlen, Result.andThen_ok, Sem.run_bind, Bool.not_false, if_true, Nat.add_zero, hn, hrun]
        cases base <;> simp [storeCells]
    split at h
    · simp at h; obtain ⟨rfl, rfl⟩ := h
      simp only [VR] at hx
      refine .same hrel (x := .slice none 0 0) (by simp [VR]) (key none 0 0 (Nat.le_refl _) hx ?_)
      simp [VR]
    · rename_i b i n s'
      simp at h; obtain ⟨rfl, rfl⟩ := h
      have hx' := hx
      simp only [VR] at hx
      obtain ⟨p, a, cap, hp, rfl, hn, h0, hext, ha⟩ := hx
      exact .same hrel hx' (key (some a) n cap hn rfl hx')
    · simp at h
  · rename_i m new hc
    split at h
    · -- onto nil
      split at h
      · rename_i hcond
        obtain ⟨hb, hone⟩ := hcond
        rw [St.newK_eq] at h
        simp at h; obtain ⟨rfl, rfl⟩ := h
        simp only [VR] at hx; subst hx
        obtain ⟨hlen, vs, hvs, hrun, hll⟩ := cells_sim (P := P) hrel hc hy
        obtain ⟨_, vs', hvs', hrun', _⟩ := cells_sim (P := P) hrel.drew hc hy
        have := sim_grow hrel ht hti he hz hs hu htui (base := none) (n := 0) (m := m + 1) (cap := 0) (old := []) (new := new) (os := []) (ns := vs') (y := y) (Nat.le_refl _) (by omega)
          (by simp [Builtin.firstCells]) (by simp [VRs]) (by simp) hlen hrun' hvs' hll (by simpa using hb) hb0 args hargs ty
        simpa using this
      · simp at h
    · rename_i b i n s'
      split at h
      · rename_i hcond
        obtain ⟨hss, hb, hone⟩ := hcond
        subst hss
        split at h
        · rename_i f e' cs hbg
          split at h
          · rename_i hee; subst hee
            split at h
            · rename_i old hsub
              rw [St.killK_eq, St.newK_eq] at h
              simp at h; obtain ⟨rfl, rfl⟩ := h
              have hx' := hx
              simp only [VR] at hx
              obtain ⟨p, a, cap, hp, rfl, hn, h0, hext, ha⟩ := hx
              obtain ⟨hlen, vs, hvs, hrun, hll⟩ := cells_sim (P := P) hrel hc hy
              by_cases hcap : n + (m + 1) ≤ cap
              · rcases ha with ha | rfl
                · omega
                · exact sim_room hrel ht hti he hu htui hbg hp hsub hcap hext hs hlen hrun hvs hll hone args hargs ty
              · obtain ⟨_, vs', hvs', hrun', _⟩ := cells_sim (P := P) hrel.drew hc hy
                obtain ⟨hle, hold⟩ := sub_eq.1 hsub
                have hcell : cellsIn σ te.size (.slice b i n te.size) = some (n, old) := by
                  unfold cellsIn
                  simp only [if_true, hbg, hsub]
                obtain ⟨_, os, hos, horun, hol⟩ := cells_sim (P := P) hrel.drew hcell hx'
                have hg := sim_grow hrel ht hti he hz hs hu htui hn (by omega) horun hos hol hlen hrun' hvs' hll hb hb0 args hargs ty
                obtain ⟨ν', z, w', h1, h2, h3, h4⟩ := hg
                refine ⟨ν', z, w', h1, h2, ?_, h4⟩
                -- the old block is forgotten besides
                have hlt := hrel.lt hbg
                have hk := h3.kill b
                have hne : b ≠ σ.next := by rw [hrel.next]; omega
                have : ((σ.new (.cells false e (old ++ new))).kill b).get = ((σ.kill b).new (.cells false e (old ++ new))).get := by
                  funext c
                  by_cases hcb : c = b
                  · subst hcb
                    rw [St.get_kill_same, St.get_new_other _ _ (by show c ≠ σ.next; exact hne), St.get_kill_same]
                  · rw [St.get_kill_other _ hcb]
                    by_cases hcn : c = σ.next
                    · subst hcn
                      rw [St.get_new_same]
                      exact (St.get_new_same (σ.kill b) _).symm
                    · rw [St.get_new_other _ _ hcn, St.get_new_other _ _ (by show c ≠ σ.next; exact hcn), St.get_kill_other _ hcb]
                exact ⟨hk.below, hk.next, fun c o hc => hk.live c o (by rw [this]; exact hc), fun c c' o o' q q' h1 h2 => hk.apart c c' o o' q q' (by rw [this]; exact h1) (by rw [this]; exact h2)⟩
            · simp at h
          · simp at h
        · simp at h
      · simp at h
    · simp at h
  · simp at h
end
end Go.Ab

/- The abstract machine, part 10: slices, indexes, fields. -/
namespace Go.Ab
open Go Go.RowKit
section
variable {P : Program} {w0 w : World} {ν : List Place} {σ : St}

def VRO (w0 : World) (ν : List Place) : Option AVal → Option Value → Prop
  | none, none => True
  | some a, some v => VR w0 ν a v
  | _, _ => False

theorem toN_sim {a : AVal} {top n : Nat} (h : toN a top = some n) {v : Value} (hv : VR w0 ν a v) : ∃ k i, v = .int k i ∧ 0 ≤ i ∧ i ≤ (top : Int) ∧ n = i.toNat := by
  unfold toN at h
  split at h
  · rename_i k i
    split at h
    · rename_i hc
      simp at h; subst h
      simp only [VR] at hv
      exact ⟨k, i, hv, hc.1, hc.2, rfl⟩
    · simp at h
  · simp at h

theorem sim_bounds {isS : Bool} {len top cap : Nat} (htop : top ≤ cap) (hlt : len ≤ top) {lo hi mx : Option AVal} {lo' hi' mx' : Option Value} (hlo : VRO w0 ν lo lo') (hhi : VRO w0 ν hi hi') (hmx : VRO w0 ν mx mx')
    {l h : Nat} (hb : boundsL len top lo hi mx = some (l, h)) :
    ∃ m, (Instr.sliceBounds isS len cap lo' hi' mx').run P w = .ok (l, h, m) w ∧ l ≤ h ∧ h ≤ m ∧ m ≤ cap ∧ h ≤ top := by
  unfold boundsL at hb
  cases mx with
  | none =>
    cases mx' with
    | some _ => simp [VRO] at hmx
    | none =>
      simp only [toNo, Option.isSome_none, Bool.false_eq_true, if_false] at hb
      cases hi with
      | none =>
        cases hi' with
        | some _ => simp [VRO] at hhi
        | none =>
          cases lo with
          | none =>
            cases lo' with
            | some _ => simp [VRO] at hlo
            | none =>
              simp at hb; obtain ⟨rfl, rfl⟩ := hb
              exact ⟨cap, by simp [Instr.sliceBounds], Nat.zero_le _, by omega, Nat.le_refl _, by omega⟩
          | some lo =>
            cases lo' with
            | none => simp [VRO] at hlo
            | some lo' =>
              simp only at hb
              split at hb
              · rename_i l' hl
                simp at hb; obtain ⟨rfl, rfl⟩ := hb
                obtain ⟨k, i, rfl, h0, h1, rfl⟩ := toN_sim hl hlo
                exact ⟨cap, by simp [Instr.sliceBounds, run_sliceBound _ _ _ _ _ h0 h1], by omega, by omega, Nat.le_refl _, by omega⟩
              · simp at hb
      | some hi =>
        cases hi' with
        | none => simp [VRO] at hhi
        | some hi' =>
          simp only at hb
          split at hb
          · rename_i h' hh
            obtain ⟨k, i, rfl, h0, h1, rfl⟩ := toN_sim hh hhi
            have h1' : i ≤ (cap : Int) := by omega
            cases lo with
            | none =>
              cases lo' with
              | some _ => simp [VRO] at hlo
              | none =>
                simp [] at hb; obtain ⟨rfl, rfl⟩ := hb
                exact ⟨cap, by simp [Instr.sliceBounds, run_sliceBound _ _ _ _ _ h0 h1'], Nat.zero_le _, by omega, Nat.le_refl _, by omega⟩
            | some lo =>
              cases lo' with
              | none => simp [VRO] at hlo
              | some lo' =>
                simp only [] at hb
                split at hb
                · rename_i l' hl
                  simp at hb; obtain ⟨rfl, rfl⟩ := hb
                  obtain ⟨k', i', rfl, h0', h2, rfl⟩ := toN_sim hl hlo
                  exact ⟨cap, by simp [Instr.sliceBounds, run_sliceBound _ _ _ _ _ h0 h1', run_sliceBound _ _ _ _ _ h0' h2], by omega, by omega, Nat.le_refl _, by omega⟩
                · simp at hb
          · simp at hb
  | some mx =>
    cases mx' with
    | none => simp [VRO] at hmx
    | some mx' =>
      simp only [toNo] at hb
      split at hb
      · rename_i m hm
        obtain ⟨km, im, rfl, hm0, hm1, rfl⟩ := toN_sim hm hmx
        have hm1' : im ≤ (cap : Int) := by omega
        cases hi with
        | none => simp at hb
        | some hi =>
          cases hi' with
          | none => simp [VRO] at hhi
          | some hi' =>
            simp only at hb
            split at hb
            · rename_i h' hh
              obtain ⟨k, i, rfl, h0, h1, rfl⟩ := toN_sim hh hhi
              cases lo with
              | none =>
                cases lo' with
                | some _ => simp [VRO] at hlo
                | none =>
                  simp at hb; obtain ⟨rfl, rfl⟩ := hb
                  exact ⟨im.toNat, by simp [Instr.sliceBounds, run_sliceBound _ _ _ _ _ hm0 hm1', run_sliceBound _ _ _ _ _ h0 h1], Nat.zero_le _, by omega, by omega, by omega⟩
              | some lo =>
                cases lo' with
                | none => simp [VRO] at hlo
                | some lo' =>
                  simp only at hb
                  split at hb
                  · rename_i l' hl
                    simp at hb; obtain ⟨rfl, rfl⟩ := hb
                    obtain ⟨k', i', rfl, h0', h2, rfl⟩ := toN_sim hl hlo
                    exact ⟨im.toNat, by simp [Instr.sliceBounds, run_sliceBound _ _ _ _ _ hm0 hm1', run_sliceBound _ _ _ _ _ h0 h1, run_sliceBound _ _ _ _ _ h0' h2], by omega, by omega, by omega, by omega⟩
                  · simp at hb
            · simp at hb
      · simp at hb

theorem OkTI.desc {t : TypeId} {ti : TI} (h : OkTI P t ti) : ∃ d, P.underlying t = some d ∧ tdOf d = ti.d := h.und

theorem td_str {d : TypeDesc} (h : tdOf d = .str) : d = .string := by cases d <;> simp [tdOf] at h; rfl
theorem td_slice {d : TypeDesc} {e : TypeId} (h : tdOf d = .slice e) : d = .slice e := by cases d <;> simp [tdOf] at h; rw [h]
theorem td_arr {d : TypeDesc} {n : Nat} {e : TypeId} (h : tdOf d = .arr n e) : d = .array n e := by cases d <;> simp [tdOf] at h; rw [h.1, h.2]
theorem td_ptr {d : TypeDesc} {e : TypeId} (h : tdOf d = .ptr e) : d = .pointer e := by cases d <;> simp [tdOf] at h; rw [h]
theorem td_int {d : TypeDesc} {k : IntKind} (h : tdOf d = .int k) : d = .int k := by cases d <;> simp [tdOf] at h; rw [h]
theorem td_bool {d : TypeDesc} (h : tdOf d = .bool) : d = .bool := by cases d <;> simp [tdOf] at h; rfl
theorem td_uptr {d : TypeDesc} (h : tdOf d = .uptr) : d = .unsafePointer := by cases d <;> simp [tdOf] at h; rfl
theorem td_func {d : TypeDesc} (h : tdOf d = .func) : ∃ a b c, d = .func a b c := by cases d <;> simp [tdOf] at h; exact ⟨_, _, _, rfl⟩
theorem td_iface {d : TypeDesc} (h : tdOf d = .iface) : ∃ a, d = .interface a := by cases d <;> simp [tdOf] at h; exact ⟨_, rfl⟩
theorem td_struct {d : TypeDesc} {fs : List (Nat × TypeId)} (h : tdOf d = .struct fs) : ∃ a : Array Field, d = .struct a ∧ fs = a.toList.map fun f => (f.offset, f.type) := by
  cases d <;> simp [tdOf] at h; exact ⟨_, rfl, h.symm⟩

theorem bytes_extract (x : ByteArray) (l h : Nat) (_hh : h ≤ x.size) : bytesOf (x.extract l h) = ((bytesOf x).drop l).take (h - l) := by
  simp only [bytesOf, ByteArray.data_extract, Array.toList_extract, List.extract_eq_take_drop, List.map_take, List.map_drop]

theorem sim_slStr (hrel : Rel w0 ν σ w) {t : TypeId} {ti : TI} (ht : OkTI P t ti) (hti : ti.d = .str) {s r : List Nat} {x : Value} (hx : VR w0 ν (.str s) x) {lo hi : Option AVal} {lo' hi' : Option Value} (hlo : VRO w0 ν lo lo') (hhi : VRO w0 ν hi hi')
    {l h : Nat} (hb : boundsL (lenL s) (lenL s) lo hi none = some (l, h)) (hs : sub s l (h - l) = some r) : Gives P w0 ν σ (.str r) (Instr.sliceAt t x lo' hi' none) w := by
  obtain ⟨d, hd, hdd⟩ := ht.und
  rw [hti] at hdd
  have := td_str hdd; subst this
  simp only [VR] at hx
  obtain ⟨y, rfl, rfl⟩ := hx
  rw [lenL_eq, bytesOf_length] at hb
  obtain ⟨m, hrun, h1, h2, h3, h4⟩ := sim_bounds (P := P) (w := w) (isS := false) (Nat.le_refl _) (Nat.le_refl _) hlo hhi (mx := none) (mx' := none) trivial hb
  obtain ⟨_, rfl⟩ := sub_eq.1 hs
  refine .same hrel (x := .string (y.extract l h)) (by simp only [VR]; exact ⟨_, rfl, bytes_extract y l h h4⟩) ?_
  simp [Instr.sliceAt, Instr.slice, run_underlying hd, hrun]

theorem sim_slSl (hrel : Rel w0 ν σ w) {t e : TypeId} {ti te : TI} (ht : OkTI P t ti) (hti : ti.d = .slice e) (he : OkTI P e te) {xv r : AVal} {x : Value} (hx : VR w0 ν xv x) {lo hi mx : Option Opd} {lo' hi' mx' : Option Value}
    (T : Tab) (env : Env) (hlo : VRO w0 ν (lo.map (·.ev T env)) lo') (hhi : VRO w0 ν (hi.map (·.ev T env)) hi') (hmx : VRO w0 ν (mx.map (·.ev T env)) mx') {xo : Opd} (hxo : xo.ev T env = xv) {σ' : St}
    (h : opSlSl T te.size xo lo hi mx env σ = some (r, σ')) : Gives P w0 ν σ' r (Instr.sliceAt t x lo' hi' mx') w := by
  obtain ⟨d, hd, hdd⟩ := ht.und
  rw [hti] at hdd
  have := td_slice hdd; subst this
  unfold opSlSl at h
  rw [hxo] at h
  split at h
  · split at h
    · rename_i b hb
      simp at h; obtain ⟨rfl, rfl⟩ := h
      simp only [VR] at hx; subst hx
      obtain ⟨l, hh⟩ := b
      obtain ⟨m, hrun, h1, h2, h3, h4⟩ := sim_bounds (P := P) (w := w) (isS := true) (cap := 0) (Nat.le_refl _) (Nat.le_refl _) hlo hhi hmx hb
      have hl0 : l = 0 := by omega
      have hh0 : hh = 0 := by omega
      have hm0 : m = 0 := by omega
      subst hl0; subst hh0; subst hm0
      refine .same hrel (x := .slice none 0 0) (by simp [VR]) ?_
      simp [Instr.sliceAt, Instr.slice, run_underlying hd, hrun, he.sizeOf]
    · simp at h
  · rename_i b i n s'
    split at h
    · rename_i hss; subst hss
      split at h
      · rename_i l hh hb
        simp at h; obtain ⟨rfl, rfl⟩ := h
        simp only [VR] at hx
        obtain ⟨p, a, cap, hp, rfl, hn, h0, hext, ha⟩ := hx
        obtain ⟨m, hrun, h1, h2, h3, h4⟩ := sim_bounds (P := P) (w := w) (isS := true) (cap := cap) hn (Nat.le_refl _) hlo hhi hmx hb
        refine .same hrel (x := .slice (some (if m = l then a else a.add (l * te.size))) (hh - l) (m - l)) ?_ ?_
        · simp only [VR]
          refine ⟨p, _, m - l, hp, rfl, by omega, h0, ?_, ?_⟩
          · have : l * te.size + (m - l) * te.size ≤ cap * te.size := by rw [← Nat.add_mul]; exact Nat.mul_le_mul_right _ (by omega)
            omega
          · by_cases hml : m = l
            · left; omega
            · right
              rw [if_neg hml]
              rcases ha with ha | rfl
              · omega
              · rw [add_plain, Nat.add_assoc]
        · simp only [Instr.sliceAt, Instr.slice, Sem.run_bind, run_underlying hd, Result.andThen_ok, hrun, he.sizeOf, Sem.run_pure]
          by_cases hml : m = l <;> simp [hml]
      · simp at h
    · simp at h
  · rename_i n cs
    split at h
    · rename_i l hh hb
      simp only [VR] at hx
      obtain ⟨ad, cap, rfl, hn, hro⟩ := hx
      obtain ⟨m, hrun, h1, h2, h3, h4⟩ := sim_bounds (P := P) (w := w) (isS := true) (cap := cap) hn (Nat.le_refl _) hlo hhi hmx hb
      have hres : (Instr.sliceAt t (.slice (some ad) n cap) lo' hi' mx').run P w = .ok (.slice (some (if m = l then ad else ad.add (l * te.size))) (hh - l) (m - l)) w := by
        simp only [Instr.sliceAt, Instr.slice, Sem.run_bind, run_underlying hd, Result.andThen_ok, hrun, he.sizeOf, Sem.run_pure]
        by_cases hml : m = l <;> simp [hml]
      split at h
      · rename_i hlh
        simp at h; obtain ⟨rfl, rfl⟩ := h
        refine .same hrel ?_ hres
        simp only [VR]
        exact ⟨_, m - l, by rw [show hh - l = 0 by omega], by omega, .inl (by simp)⟩
      · rename_i hlh
        split at h
        · rename_i r' hdr
          simp at h; obtain ⟨rfl, rfl⟩ := h
          obtain ⟨_, rfl⟩ := dropX_eq.1 hdr
          refine .same hrel ?_ hres
          rcases hro with ⟨h0, -⟩ | ⟨rb, o, rfl, hro⟩
          · exfalso; omega
          rw [if_neg (by omega), add_plain]
          simp only [VR]
          exact ⟨_, m - l, rfl, by omega, .inr ⟨_, _, rfl, ROs_drop hro _⟩⟩
        · simp at h
    · simp at h
  · simp at h

theorem sim_slArr (hrel : Rel w0 ν σ w) {t e : TypeId} {ti te : TI} {n : Nat} (ht : OkTI P t ti) (hti : ti.d = .arr n e) (he : OkTI P e te) {xv r : AVal} {x : Value} (hx : VR w0 ν xv x) {lo hi mx : Option Opd} {lo' hi' mx' : Option Value}
    (T : Tab) (env : Env) (hlo : VRO w0 ν (lo.map (·.ev T env)) lo') (hhi : VRO w0 ν (hi.map (·.ev T env)) hi') (hmx : VRO w0 ν (mx.map (·.ev T env)) mx') {xo : Opd} (hxo : xo.ev T env = xv) {σ' : St}
    (h : opSlArr T n te.size xo lo hi mx env σ = some (r, σ')) : Gives P w0 ν σ' r (Instr.sliceAt t x lo' hi' mx') w := by
  obtain ⟨d, hd, hdd⟩ := ht.und
  rw [hti] at hdd
  have := td_arr hdd; subst this
  unfold opSlArr at h
  split at h
  · rename_i l hh hb
    obtain ⟨m, hrun, h1, h2, h3, h4⟩ := sim_bounds (P := P) (w := w) (isS := false) (cap := n) (Nat.le_refl _) (Nat.le_refl _) hlo hhi hmx hb
    rw [hxo] at h
    have hres : ∀ a : Addr, (Instr.sliceAt t (.pointer (some a)) lo' hi' mx').run P w = .ok (.slice (some (if m = l then a else a.add (l * te.size))) (hh - l) (m - l)) w := by
      intro a
      simp only [Instr.sliceAt, Instr.sureAddr, Sem.run_bind, run_underlying hd, Result.andThen_ok, hrun, he.sizeOf, Sem.run_pure]
    split at h
    · rename_i b i
      split at h
      · rename_i f eb cs hbg
        split at h
        · rename_i hcond
          simp at h; obtain ⟨rfl, rfl⟩ := h
          simp only [VR] at hx
          obtain ⟨p, hp, rfl⟩ := hx
          refine .same hrel ?_ (hres _)
          obtain ⟨q, hq, _, ho⟩ := hrel.live b _ hbg
          rw [hp] at hq; cases hq
          have hcl : cs.length ≤ p.ext := ho.1
          rw [lenL_eq] at hcond
          simp only [VR]
          refine ⟨p, _, m - l, hp, rfl, by omega, hcond.2, ?_, ?_⟩
          · have : l * te.size + (m - l) * te.size ≤ n * te.size := by rw [← Nat.add_mul]; exact Nat.mul_le_mul_right _ (by omega)
            omega
          · by_cases hml : m = l
            · left; omega
            · right; rw [if_neg hml, add_plain, Nat.add_assoc]
        · simp at h
      · simp at h
    · rename_i cs
      simp only [VR] at hx
      obtain ⟨rb, o, rfl, hro⟩ := hx
      split at h
      · rename_i hlh
        simp at h; obtain ⟨rfl, rfl⟩ := h
        refine .same hrel ?_ (hres _)
        simp only [VR]
        exact ⟨_, m - l, by rw [show hh - l = 0 by omega], by omega, .inl (by simp)⟩
      · split at h
        · rename_i r' hdr
          simp at h; obtain ⟨rfl, rfl⟩ := h
          obtain ⟨_, rfl⟩ := dropX_eq.1 hdr
          refine .same hrel ?_ (hres _)
          rw [if_neg (by omega), add_plain]
          simp only [VR]
          exact ⟨_, m - l, rfl, by omega, .inr ⟨_, _, rfl, ROs_drop hro _⟩⟩
        · simp at h
    · simp at h
  · simp at h
end
end Go.Ab
