/-
  Walks of the law's own functions, first part: pick, few.
-/
import Derived.Test.YtodmihpmbecncaaWkP
import Derived.Test.YtodmihpmbecncaaCm
namespace Go.Proofs.Ytodmihpmbecncaa
open Go.RowKit

theorem pick_of (n m : Int) (h : 1 ≤ m) : M.pick n m = if n.tmod m < 0 then n.tmod m + m else n.tmod m := by
  unfold M.pick
  rw [if_neg (by omega)]
  have hd := Int.emod_nonneg n (show m ≠ 0 by omega)
  have hl := Int.emod_lt_of_pos n (show 0 < m by omega)
  have h1 := Int.tmod_eq_emod (a := n) (b := m)
  split at h1 <;> split <;> omega
theorem pick_bd (n m : Int) (h : 1 ≤ m) : 0 ≤ M.pick n m ∧ M.pick n m < m := by
  unfold M.pick
  rw [if_neg (by omega)]
  exact ⟨Int.emod_nonneg n (by omega), Int.emod_lt_of_pos n (by omega)⟩

/-- pick, at a range that is not empty. -/
theorem pick_calls (n m : Int) (w : World) (h1 : 1 ≤ m) (h2 : m ≤ 1000000) :
    Calls Try.prog 30 #[.int .i64 n, .int .i64 m] w fun e w' => e = .returned (.int .i64 (M.pick n m)) ∧ w = w' := by
  have HP := Lib.hid (pick_of n m h1)
  have hb1 : -m < n.tmod m := by
    have h3 := Int.tmod_eq_emod (a := n) (b := m)
    have hd := Int.emod_nonneg n (show m ≠ 0 by omega)
    have hl := Int.emod_lt_of_pos n (show 0 < m by omega)
    split at h3 <;> omega
  have hb2 : n.tmod m < m := Int.tmod_lt_of_pos n (by omega)
  have hm0 : m ≠ 0 := by omega
  go_enter Try.func30, Try.ntmps30
  go_wp2
  all_goals go_ret
  all_goals refine ⟨reti ?_, rfl⟩
  all_goals
    rw [HP.out]
    first
      | rw [if_pos (by omega)]
      | rw [if_neg (by omega)]
end Go.Proofs.Ytodmihpmbecncaa
