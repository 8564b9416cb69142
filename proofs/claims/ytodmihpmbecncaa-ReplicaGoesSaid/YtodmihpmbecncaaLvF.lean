/-
  Walk of flow: all messages arrive, in order. Condition: the cluster lies in memory and keeps the protocol's invariant.
-/
import Derived.Test.YtodmihpmbecncaaLvB
import Derived.Test.YtodmihpmbecncaaGm
namespace Go.Proofs.Ytodmihpmbecncaa
open Go.RowKit

set_option maxRecDepth 10000 in
set_option maxHeartbeats 1600000 in
theorem flow_calls {w : World} {cb : Nat} {x : M.Cl} {L : Lay} (h : ClOk w cb x L) {g : M.Gh} (P : M.PInv x g) : Calls Try.prog 14 #[ptrV cb] w (ClPost w cb L (M.flow 2000 x)) := by
  have HH := Lib.hid h
  have HP := Lib.hid P
  clear h P
  unfold ptrV
  go_enter Try.func14, Try.ntmps14
  go_wp2_with fail
  go_loopw [3] (fun nv wr => ∃ (n : Nat) (y : M.Cl) (L1 : Lay) (g1 : M.Gh), nv = .int .i64 n ∧ n ≤ 2000 ∧ ClOk wr cb y L1 ∧ M.PInv y g1 ∧ (∀ k, k < w.heap.size → ClS cb L1 k → ClS cb L k) ∧ Fr (ClS cb L) w wr ∧ M.flow (2000 - n) y = M.flow 2000 x) (fun nv _ => 2000 - (intOf nv).toNat)
  case atStart => exact ⟨0, x, L, g, rfl, Nat.zero_le _, HH.out, HP.out, fun _ _ q => q, Fr.refl _ _, rfl⟩
  case round =>
    clear HH HP
    obtain ⟨n, y, L1, g1, rfl, hn, hok, hP, hcl, hF, hfl⟩ := hrel
    have c2 := hok.cells.2.2
    have hm300 := hok.mN
    have HOK := Lib.hid hok
    have HP := Lib.hid hP
    have HCL := Lib.hid hcl
    have HF := Lib.hid hF
    have HFL := Lib.hid hfl
    clear hok hP hcl hF hfl
    by_cases h2 : n < 2000
    · have h2I : (n : Int) < 2000 := by omega
      by_cases hs : 0 < y.sent.length
      · have hsI : (0 : Int) < (y.sent.length : Int) := by omega
        go_wp2_with fail
        have hcc := arrive_calls HOK.out HP.out 0 false
        unfold ptrV at hcc
        refine hcc.mono ?_
        rintro e w2 hp
        have hp2 := ClPost.of hp HCL.out HF.out
        obtain ⟨L2, rfl, q1, q2, q3⟩ := hp2
        obtain ⟨g2, _, P2⟩ := M.pinv_arrive HP.out (fun i hi => (HOK.out.rep i hi).wf) 0 false
        have hfl2 : M.flow (2000 - (n + 1)) (M.arrive y 0 false) = M.flow 2000 x := by
          rw [← HFL.out]
          obtain ⟨k, hk⟩ : ∃ k, 2000 - n = k + 1 := ⟨2000 - n - 1, by omega⟩
          rw [hk, show 2000 - (n + 1) = k from by omega]
          show _ = (if y.sent.length = 0 then y else M.flow k (M.arrive y 0 false))
          rw [if_neg (by omega)]
        have Q1 := Lib.hid q1
        have Q2 := Lib.hid q2
        have Q3 := Lib.hid q3
        have P2 := Lib.hid P2
        have F2 := Lib.hid hfl2
        clear hcc hp q1 q2 q3 hfl2 c2
        go_wp2_with fail
        go_roundw
        case rel => exact ⟨n + 1, M.arrive y 0 false, L2, g2, by go_num, by omega, Q1.out, P2.out, Q2.out, Q3.out, F2.out⟩
        case measure => simp [intOf]; omega
      · have hsI : (y.sent.length : Int) ≤ 0 := by omega
        go_wp2_with fail
        go_ret
        have e : M.flow 2000 x = y := by
          rw [← HFL.out]
          cases 2000 - n with
          | zero => rfl
          | succ k => show (if y.sent.length = 0 then y else M.flow k (M.arrive y 0 false)) = y; rw [if_pos (by omega)]
        rw [e]
        exact ⟨L1, rfl, HOK.out, HCL.out, HF.out⟩
    · have h2I : (2000 : Int) ≤ (n : Int) := by omega
      go_wp2_with fail
      go_ret
      have e : M.flow 2000 x = y := by
        rw [← HFL.out, show 2000 - n = 0 from by omega]
        rfl
      rw [e]
      exact ⟨L1, rfl, HOK.out, HCL.out, HF.out⟩
end Go.Proofs.Ytodmihpmbecncaa
