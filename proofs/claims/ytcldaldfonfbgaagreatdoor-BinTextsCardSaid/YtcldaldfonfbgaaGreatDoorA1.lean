/- The stream of raw numbers: walks of Below, Next. -/
import Derived.Test.YtcldaldfonfbgaaGreatDoorProg
import Derived.Test.YtcldaldfonfbgaaGreatDoorA0
set_option linter.unusedVariables false
set_option linter.unusedSimpArgs false
namespace Go.Proofs.YtcldaldfonfbgaaGreatDoor
open Go.RowKit

def below (x n : Int) : Int := if n < 1 then 0 else x % n
theorem below_lt {x n : Int} (h : 1 ≤ n) : 0 ≤ below x n ∧ below x n < n := by
  unfold below; rw [if_neg (by omega)]; exact ⟨Int.emod_nonneg _ (by omega), Int.emod_lt_of_pos _ (by omega)⟩
theorem tmod_bd (x n : Int) (h : 1 ≤ n) : -n < x.tmod n ∧ x.tmod n < n := by
  constructor
  · have := Int.lt_tmod_of_pos x (show 0 < n by omega); omega
  · exact Int.tmod_lt_of_pos x (by omega)
theorem tmod_emod (x n : Int) (h : 1 ≤ n) : x.tmod n < 0 ∧ x % n = x.tmod n + n ∨ 0 ≤ x.tmod n ∧ x % n = x.tmod n := by
  rcases Int.lt_or_le x 0 with hx | hx
  · have h1 := Int.tmod_eq_emod (a := x) (b := n)
    have h2 := Int.emod_nonneg x (show n ≠ 0 by omega)
    have h3 := Int.emod_lt_of_pos x (show 0 < n by omega)
    split at h1
    · rename_i hh
      rcases hh with hh | hh
      · omega
      · have := Int.emod_eq_zero_of_dvd hh
        exact .inr ⟨by omega, by omega⟩
    · have : (n.natAbs : Int) = n := by omega
      exact .inl ⟨by omega, by omega⟩
  · exact .inr ⟨Int.tmod_nonneg _ hx, (Int.tmod_eq_emod_of_nonneg hx).symm⟩

set_option maxHeartbeats 400000 in
theorem below_any (x n : Int) (w : World) (hx : -9223372036854775808 ≤ x) (hx' : x ≤ 9223372036854775807) (hn : n ≤ 4611686018427387904) :
    Calls Tryz.prog 208 #[.int .i64 x, .int .i64 n] w fun e w' => e = .returned (.int .i64 (below x n)) ∧ w = w' := by
  by_cases h : n < 1
  · have hf : below x n = 0 := if_pos h
    rw [hf]
    go_enter Tryz.func208, Tryz.ntmps208
    go_wp2
    go_ret
    exact ⟨rfl, rfl⟩
  · have h1 : 1 ≤ n := by omega
    obtain ⟨b1, b2⟩ := tmod_bd x n h1
    have hf : below x n = x % n := if_neg h
    rw [hf]
    rcases tmod_emod x n h1 with ⟨hm, he⟩ | ⟨hm, he⟩
    all_goals
      rw [he]
      clear he hf
      go_enter Tryz.func208, Tryz.ntmps208
      go_wp2
      go_ret
      exact ⟨rfl, rfl⟩
end Go.Proofs.YtcldaldfonfbgaaGreatDoor
