/-
  The walk of replica.right: it computes what the model says.
-/
import Derived.Test.YtodmihpmbecncaaWkB
namespace Go.Proofs.Ytodmihpmbecncaa
open Go.RowKit

theorem between_q (n a b : Int) (w : World) :
    Calls Try.prog 38 #[.int .i64 n, .int .i64 a, .int .i64 b] w fun e w' => e = .returned (.bool (M.between n a b)) ∧ w' = w :=
  (between_any n a b w).mono fun _ _ ⟨h1, h2⟩ => ⟨h1, h2.symm⟩

theorem right_of {r : Rep} {m : Msg} (h1 : 0 ≤ m.kind ∧ m.kind ≤ 3) (h2 : m.to = r.id) (h3 : m.fr ≠ r.id) (h4 : 0 ≤ m.fr ∧ m.fr ≤ 2) (h5 : 1 ≤ m.term ∧ m.term ≤ 1099511627776) (h6 : 0 ≤ m.index ∧ m.index ≤ 4000) (h7 : 0 ≤ m.prev ∧ m.prev ≤ m.term)
    (h8 : ¬ (m.index = 0 ∧ m.prev ≠ 0)) (h9 : 0 ≤ m.commit ∧ m.commit ≤ 4000) (h10 : m.recs.length ≤ 8) (h11 : m.index + m.recs.length ≤ 4000) : M.right r m = M.sound m.recs (max 1 m.prev) m.term := by
  have h8' : (decide (m.index = 0) && decide (m.prev ≠ 0)) = false := by
    rw [Bool.and_eq_false_iff]
    by_cases h : m.index = 0
    · right; simp; exact Decidable.byContradiction fun h' => h8 ⟨h, h'⟩
    · left; simp [h]
  unfold M.right M.between
  rw [h8']
  simp [h1, h2, h3, h4, h5, h6, h7, h9, h10, h11]
theorem right_out {r : Rep} {m : Msg} (h : M.right r m = true) : (0 ≤ m.kind ∧ m.kind ≤ 3) ∧ m.to = r.id ∧ m.fr ≠ r.id ∧ (0 ≤ m.fr ∧ m.fr ≤ 2) ∧ (1 ≤ m.term ∧ m.term ≤ 1099511627776) ∧ (0 ≤ m.index ∧ m.index ≤ 4000) ∧ (0 ≤ m.prev ∧ m.prev ≤ m.term) ∧
    (m.index = 0 → m.prev = 0) ∧ (0 ≤ m.commit ∧ m.commit ≤ 4000) ∧ m.recs.length ≤ 8 ∧ m.index + m.recs.length ≤ 4000 ∧ M.sound m.recs (max 1 m.prev) m.term = true := by
  unfold M.right M.between at h
  simp only [Bool.and_eq_true, decide_eq_true_eq, Bool.not_eq_true', Bool.and_eq_false_iff, decide_eq_false_iff_not] at h
  obtain ⟨⟨⟨⟨⟨⟨⟨⟨⟨⟨⟨h1, h2⟩, h3⟩, h4⟩, h5⟩, h6⟩, h7⟩, h8⟩, h9⟩, h10⟩, h11⟩, h12⟩ := h
  exact ⟨h1, h2, h3, h4, h5, h6, h7, fun h => Decidable.byContradiction fun h' => h8.elim (fun g => g h) (fun g => g h'), h9, h10, h11, h12⟩

section
variable {w : World} {b : Nat} {r : Rep} {A : Option Addr} {cap : Nat}
theorem Sl.form {w : World} {ok : Nat → Prop} {sz n : Nat} {v : Value} {cs : List Value} (h : Sl w ok sz v n cs) : ∃ A cap, v = .slice A n cap := by
  obtain ⟨_, _, A, cap, rfl, _⟩ := h; exact ⟨_, _, rfl⟩

set_option maxHeartbeats 800000 in
theorem right_calls {ok : Nat → Prop} (h : RepB w b r A cap) (m : Msg) (v : Value) (hs : Sl w ok 2 v m.recs.length (recsCells m.recs)) :
    Calls Try.prog 41 #[.pointer (some ⟨b, 0, none⟩), msgVal m v] w fun e w' => e = .returned (.bool (M.right r m)) ∧ Below w.heap.size w w' := by
  obtain ⟨c0, _⟩ := h.cells
  have hb := h.lt
  obtain ⟨mA, mc, rfl⟩ := hs.form
  unfold msgVal msgCells
  have HS := Lib.hid hs
  clear hs h
  cases hk : M.between m.kind 0 3
  · have HR : Hid (M.right r m = false) := by show _ = _; unfold M.right; rw [hk]; rfl
    go_enter Try.func41, Try.ntmps41
    go_wp2_with fail
    go_quiet ((go_at_call 38; exact Calls.quiet_of_same (between_q _ _ _ _)))
    go_wp2
    go_ret
    exact ⟨retb HR.out.symm, below_drewN ((Below.refl w.heap.size w).alloc (Nat.le_refl _) _) _⟩
  · cases hto : (m.to != r.id)
    · cases hfr : (m.fr == r.id)
      · cases hf : M.between m.fr 0 2
        · have HR : Hid (M.right r m = false) := by show _ = _; unfold M.right; rw [hf]; simp
          go_enter Try.func41, Try.ntmps41
          go_wp2_with fail
          go_quiet ((go_at_call 38; exact Calls.quiet_of_same (between_q _ _ _ _)))
          go_wp2
          go_ret
          exact ⟨retb HR.out.symm, below_drewN ((Below.refl w.heap.size w).alloc (Nat.le_refl _) _) _⟩
        · go_enter Try.func41, Try.ntmps41
          go_wp2_with fail
          go_quiet ((go_at_call 38; exact Calls.quiet_of_same (between_q _ _ _ _)))
          go_wp2_with (first | (go_at_call 38; refine (between_any _ _ _ _).mono ?_; rintro e w' ⟨rfl, rfl⟩))
          all_goals first
            | (go_at_call 39
               refine (sound_calls (ok := ok) _ m.recs _ _ _ (HS.out.below (below_drewN ((Below.refl w.heap.size w).alloc (Nat.le_refl _) _) _) (Nat.le_refl _))).mono ?_
               rintro e w2 ⟨rfl, hb2⟩)
            | skip
          all_goals go_wp2
          all_goals
            clear HS
            go_ret
            refine ⟨retb ?_, ?_⟩
            · simp only [M.between, Bool.and_eq_true, decide_eq_true_eq, bne_iff_ne, beq_eq_false_iff_ne, bne_eq_false_iff_eq] at *
              (try unfold wrap64 at *)
              first
                | (rw [right_of (by omega) (by omega) (by omega) (by omega) (by omega) (by omega) (by omega) (by omega) (by omega) (by omega) (by omega)]
                   congr 1; omega)
                | (symm
                   rw [← Bool.not_eq_true]
                   intro hR
                   have := right_out hR
                   omega)
            first
              | exact below_drewN ((Below.refl w.heap.size w).alloc (Nat.le_refl _) _) _
              | exact (below_drewN ((Below.refl w.heap.size w).alloc (Nat.le_refl _) _) _).trans (hb2.mono (by simp))
      · have HR : Hid (M.right r m = false) := by
          show _ = _
          unfold M.right
          rw [beq_iff_eq] at hfr
          simp [hfr]
        go_enter Try.func41, Try.ntmps41
        go_wp2_with fail
        go_quiet ((go_at_call 38; exact Calls.quiet_of_same (between_q _ _ _ _)))
        go_wp2
        go_ret
        exact ⟨retb HR.out.symm, below_drewN ((Below.refl w.heap.size w).alloc (Nat.le_refl _) _) _⟩
    · have HR : Hid (M.right r m = false) := by
        show _ = _
        unfold M.right
        rw [bne_iff_ne] at hto
        simp [hto]
      go_enter Try.func41, Try.ntmps41
      go_wp2_with fail
      go_quiet ((go_at_call 38; exact Calls.quiet_of_same (between_q _ _ _ _)))
      go_wp2
      go_ret
      exact ⟨retb HR.out.symm, below_drewN ((Below.refl w.heap.size w).alloc (Nat.le_refl _) _) _⟩
end
end Go.Proofs.Ytodmihpmbecncaa
