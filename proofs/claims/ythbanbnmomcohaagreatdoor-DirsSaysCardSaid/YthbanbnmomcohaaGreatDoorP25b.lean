/- Small laws that two statements share. -/
import Derived.Test.YthbanbnmomcohaaGreatDoorP24
set_option maxRecDepth 10000
noncomputable section
namespace Go.Ab.Dirs
open Go Go.Ab

theorem works_ok (q : Bool) (σ : St) : Cw TS q 10 [] σ = some (.bool true, σ) := Cw_iff.2 ⟨5, by kernel_rfl⟩

theorem NWF.alen' {t : List ND} (h : ∀ n ∈ t, NWF n) : ∀ n ∈ t, n.attrs.length < 9223372036854775808 := fun n hn => (h n hn).alen

theorem pick_range {n : Int} {b : Nat} (hb : 0 < b) : ∃ i : Nat, (if (b : Int) ≤ 0 then 0 else (n.tmod (b : Int) + (b : Int)).tmod (b : Int)) = (i : Int) ∧ i < b := by
  rw [if_neg (by omega)]
  have h0 : 0 ≤ n.tmod (b : Int) + (b : Int) := by
    have := Int.lt_tmod_of_pos n (show (0 : Int) < (b : Int) by omega); omega
  have h1 : 0 ≤ (n.tmod (b : Int) + (b : Int)).tmod (b : Int) := Int.tmod_nonneg _ h0
  have h2 : (n.tmod (b : Int) + (b : Int)).tmod (b : Int) < (b : Int) := Int.tmod_lt_of_pos _ (by omega)
  exact ⟨((n.tmod (b : Int) + (b : Int)).tmod (b : Int)).toNat, by omega, by omega⟩

end Go.Ab.Dirs
end
