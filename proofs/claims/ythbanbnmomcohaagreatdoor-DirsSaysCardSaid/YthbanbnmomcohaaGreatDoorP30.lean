/- DirsSays, walked. -/
import Derived.Test.YthbanbnmomcohaaGreatDoorP29
set_option maxRecDepth 10000
noncomputable section
namespace Go.Ab.Dirs
open Go Go.Ab

def wL : List Nat := [108, 116, 114]
def wR : List Nat := [82, 84, 76]
def wK (k : Nat) : List Nat := if k = 0 then wL else wR
def dirN : List Nat := [100, 105, 114]

theorem attrs_dir : ∀ w, w = wL ∨ w = wR → attrsS [(dirN, w)] = true := by
  have h1 : wellS wL = true := by
    have : validS wL = true := by
      unfold wL
      rw [validS_ascii (by decide) (by decide), validS_ascii (by decide) (by decide), validS_ascii (by decide) (by decide)]
      exact validS_nil
    unfold wellS; rw [this]; rfl
  have h2 : wellS wR = true := by
    have : validS wR = true := by
      unfold wR
      rw [validS_ascii (by decide) (by decide), validS_ascii (by decide) (by decide), validS_ascii (by decide) (by decide)]
      exact validS_nil
    unfold wellS; rw [this]; rfl
  rintro w (rfl | rfl)
  · simp only [attrsS, attrsOK, attrOK, h1]; decide
  · simp only [attrsS, attrsOK, attrOK, h2]; decide
theorem state_L : stateS [(dirN, wL)] = 1 := by decide
theorem state_R : stateS [(dirN, wR)] = 2 := by decide

theorem fill_at (w : List Nat) : fillL [(0, 1, .str [100, 105, 114]), (1, 1, .str w)] 0 [.str [], .str []] = some [.str [100, 105, 114], .str w] := by kernel_rfl
theorem fill_at2 (w : List Nat) : fillL [(0, 2, .agg [.str [100, 105, 114], .str w])] 0 [.str [], .str []] = some [.str [100, 105, 114], .str w] := by kernel_rfl
theorem fill_s2 : fillL [(0, 1, .str [108, 116, 114]), (1, 1, .str [82, 84, 76])] 0 [.str [], .str []] = some [.str [108, 116, 114], .str [82, 84, 76]] := by kernel_rfl
theorem putX_2of6 {a b c d e f x : AVal} : putX 2 [a, b, c, d, e, f] [x] = some [a, b, x, d, e, f] := rfl

/-- The two words. -/
def OwnW (σ : St) (bs : Nat) : Prop := bs < σ.next ∧ ∃ f e, σ.get bs = some (.cells f e [.str [108, 116, 114], .str [82, 84, 76]])
theorem OwnW.fr {σ σ' : St} {b : Nat} (h : OwnW σ b) (hf : Fr σ σ') : OwnW σ' b := by
  obtain ⟨h1, f, e, h2⟩ := h
  exact ⟨Nat.lt_of_lt_of_le h1 hf.next, f, e, by rw [hf.get _ h1]; exact h2⟩
theorem OwnW.get {σ : St} {b : Nat} (h : OwnW σ b) {k : Nat} (hk : k < 2) {q : IntKind} : ixS 1 (.slice b 0 2 1) (.int q (k : Int)) = some (.ptr b (0 + k * 1)) ∧ ldA σ none (.ptr b (0 + k * 1)) = some (.str (wK k)) := by
  obtain ⟨h1, f, e, h2⟩ := h
  have hk2 : k = 0 ∨ k = 1 := by omega
  rcases hk2 with rfl | rfl
  · refine ⟨rfl, ?_⟩
    rw [ldA_ptr, h2]; rfl
  · refine ⟨rfl, ?_⟩
    rw [ldA_ptr, h2]; rfl

section
variable {σ : St} {t : List ND} {tv : AVal}

/-- The tree with the word put in. -/
theorem says_tree {σ' : St} {cs : List AVal} {i ba bu : Nat} {w : List Nat} (hi : i < t.length) (hn : NodesC σ' t cs) (hcs : cs.length = t.length * 6) {av kv : AVal} (hk : NodeC σ' t[i] av kv ((cs.drop (i * 6)).take 6))
    (hba : ba < σ'.next) (hga : σ'.get ba = some (.cells true 39 [.str [100, 105, 114], .str w])) (hbu : bu < σ'.next) {f : Bool} (hgu : σ'.get bu = some (.cells f 36 (cs.take (i * 6) ++ ([.int .u8 (t[i].kind : Int), .str t[i].name, .slice ba 0 1 2, .str t[i].data, .int .i64 t[i].up, kv] ++ cs.drop (i * 6 + 6))))) :
    TreeI σ' (.slice bu 0 t.length 6) (withA t i w) := by
  have hi6 : i * 6 + 6 ≤ t.length * 6 := by omega
  refine ⟨cs.take (i * 6) ++ ([.int .u8 (t[i].kind : Int), .str t[i].name, .slice ba 0 1 2, .str t[i].data, .int .i64 t[i].up, kv] ++ cs.drop (i * 6 + 6)), ⟨hbu, ?_⟩, ?_⟩
  · rw [withA_len]
    simp only [cellsIn, hgu, if_true]
    rw [sub_eq.2 ⟨by simp; omega, rfl⟩]
    rw [List.drop_zero, List.take_of_length_le (by simp; omega)]
  · unfold withA
    refine NodesC.set hn hi (av := .slice ba 0 1 2) (kv := kv) ⟨?_, ?_, ?_⟩
    · rw [getD_at hi]
    · refine ⟨hba, ?_⟩
      simp only [cellsIn, hga, if_true]
      rw [sub_eq.2 ⟨by simp, rfl⟩]; rfl
    · rw [getD_at hi]; exact hk.2.2

theorem withA_wf {i : Nat} {w : List Nat} (hwf : ∀ n ∈ t, NWF n) (hi : i < t.length) (hw : SWF w) : ∀ n ∈ withA t i w, NWF n := by
  intro n hn
  obtain ⟨j, hj, rfl⟩ := List.getElem_of_mem hn
  have hjl : j < t.length := by rw [withA_len] at hj; exact hj
  have e : (withA t i w)[j] = (withA t i w).getD j dN := (getD_at hj dN).symm
  rw [e]
  by_cases h : j = i
  · subst h
    rw [withA_at hi, getD_at hi]
    have := hwf t[j] (List.getElem_mem _)
    refine ⟨this.name, this.data, fun a ha => ?_, by show 1 < 9223372036854775808; decide, this.klen⟩
    simp only [List.mem_cons, List.not_mem_nil, or_false] at ha
    subst ha
    exact ⟨⟨fun c hc => by simp at hc; omega, by show 3 < 9223372036854775808; decide⟩, hw⟩
  · rw [withA_ne h, getD_at hjl]
    exact hwf _ (List.getElem_mem _)
end
end Go.Ab.Dirs
end
