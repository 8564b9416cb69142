/-
  The walk of the reference's Right: it computes what the model says.
-/
import Derived.Test.YtodmihpmbecncaaQb
namespace Go.Proofs.Ytodmihpmbecncaa
open Go.RowKit

def oneOk (id : Int) (m : Msg) : Prop := (0 ≤ m.kind ∧ m.kind ≤ 3) ∧ m.to = id ∧ m.fr ≠ id ∧ (0 ≤ m.fr ∧ m.fr ≤ 2) ∧ (1 ≤ m.term ∧ m.term ≤ 1099511627776)
def twoOk (m : Msg) : Prop := (0 ≤ m.index ∧ m.index ≤ 4000) ∧ (0 ≤ m.prev ∧ m.prev ≤ m.term) ∧ (0 ≤ m.commit ∧ m.commit ≤ 4000) ∧ m.recs.length ≤ 8
instance (id : Int) (m : Msg) : Decidable (oneOk id m) := by unfold oneOk; infer_instance
instance (m : Msg) : Decidable (twoOk m) := by unfold twoOk; infer_instance

section
variable {w : World}
set_option maxRecDepth 10000 in
set_option maxHeartbeats 1600000 in
theorem qright_calls {ok : Nat → Prop} (r : Rep) (m : Msg) (v : Value) (hs : Sl w ok 2 v m.recs.length (recsCells m.recs)) :
    Calls Try.prog 46 #[.int .i64 r.id, msgVal m v] w fun e w' => e = .returned (.bool (M.right r m)) ∧ Below w.heap.size w w' := by
  obtain ⟨mA, mc, rfl⟩ := hs.form
  have hmx := hs.2.1
  unfold msgVal msgCells
  have HS := Lib.hid hs
  clear hs
  go_enter Try.func46, Try.ntmps46
  go_upto_region 1 with fail
  refine wp_world (fun W => Below w.heap.size w W ∧ W.heap[w.heap.size]? = some (.cells (msgCells m (.slice mA m.recs.length mc)).toArray 37)) ⟨(Below.refl _ _).alloc (Nat.le_refl _) _, heap_alloc_new w _⟩ ?_
  rintro W ⟨hb, hblk⟩
  have x0 := cell_blk hblk 0
  have x1 := cell_blk hblk 1
  have x2 := cell_blk hblk 2
  have x3 := cell_blk hblk 3
  have x4 := cell_blk hblk 4
  have x5 := cell_blk hblk 5
  have x6 := cell_blk hblk 6
  have x8 := cell_blk hblk 8
  simp only [msgCells, List.getElem?_cons_succ, List.getElem?_cons_zero] at x0 x1 x2 x3 x4 x5 x6 x8
  have hlt := lt_blk hblk
  have HB := Lib.hid hb
  clear hb hblk
  obtain ⟨bt, hbt⟩ : ∃ q, (m.to == r.id) = q := ⟨_, rfl⟩
  obtain ⟨bf, hbf⟩ : ∃ q, (m.fr != r.id) = q := ⟨_, rfl⟩
  have hbt' : bt = true ↔ m.to = r.id := by rw [← hbt]; exact beq_iff_eq
  have hbf' : bf = true ↔ m.fr ≠ r.id := by rw [← hbf]; exact bne_iff_ne
  go_cut [5] (fun v1 wx => ∃ q : Bool, v1 = .bool q ∧ (q = true ↔ oneOk r.id m) ∧ W = wx)
  case first =>
    have HBT := Lib.hid hbt'
    have HBF := Lib.hid hbf'
    clear hbt' hbf'
    go_wp2_with fail
    all_goals go_meet
    all_goals
      refine ⟨_, rfl, ?_, rfl⟩
      unfold oneOk
      have hbt' := HBT.out
      have hbf' := HBF.out
      clear HBT HBF
      try (have := hbt'.1 (by assumption))
      try (have := hbf'.1 (by assumption))
      try (have := mt hbt'.2 (by assumption))
      try (have := mt hbf'.2 (by assumption))
      first
        | (refine iff_of_false (by simp) (by omega))
        | (rw [decide_eq_true_eq]; constructor <;> intro _ <;> omega)
  case rest =>
  clear hbt hbf hbt' hbf'
  obtain ⟨q1, rfl, hq1, rfl⟩ := hcut
  go_upto_region 2 with fail
  go_cut [6] (fun v1 wx => ∃ q : Bool, v1 = .bool q ∧ (q = true ↔ twoOk m) ∧ W = wx)
  case first =>
    have HQ := Lib.hid hq1
    clear hq1
    go_wp2_with fail
    all_goals go_meet
    all_goals
      refine ⟨_, rfl, ?_, rfl⟩
      unfold twoOk
      first
        | (refine iff_of_false (by simp) (by omega))
        | (rw [decide_eq_true_eq]; constructor <;> intro _ <;> omega)
  case rest =>
  obtain ⟨q2, rfl, hq2, rfl⟩ := hcut
  have HQ1 := Lib.hid hq1
  have HQ2 := Lib.hid hq2
  clear hq1 hq2
  by_cases h12 : oneOk r.id m ∧ twoOk m
  · obtain rfl := HQ1.out.2 h12.1
    obtain rfl := HQ2.out.2 h12.2
    have h1 := h12.1
    have h2 := h12.2
    unfold oneOk at h1
    unfold twoOk at h2
    have HO : Hid (_ ∧ _) := ⟨h1, h2⟩
    have i0 : 0 ≤ m.index := h2.1.1
    have i4 : m.index ≤ 4000 := h2.1.2
    have n8 : (m.recs.length : Int) ≤ 8 := by have := h2.2.2.2; omega
    clear h12 h1 h2
    go_wp2_with (go_at_call 40; refine (qsound_calls (ok := ok) _ m.recs _ _ _ (HS.out.below HB.out (Nat.le_refl _))).mono ?_; rintro e w2 ⟨rfl, hb2⟩)
    all_goals
      have hO := HO.out
      clear HS HQ1 HQ2 HO
      go_ret
      refine ⟨retb ?_, ?_⟩
      · first
          | (rw [right_of (by omega) (by omega) (by omega) (by omega) (by omega) (by omega) (by omega) (by omega) (by omega) (by omega) (by omega)]
             congr 1; omega)
          | (have hp : m.prev = 0 := by omega
             rw [right_of (by omega) (by omega) (by omega) (by omega) (by omega) (by omega) (by omega) (by omega) (by omega) (by omega) (by omega)]
             have hm1 : max (1 : Int) 0 = 1 := by decide
             simp [hp, hm1])
          | (symm
             rw [← Bool.not_eq_true]
             intro hR
             have := right_out hR
             omega)
      · first
          | exact HB.out.trans (hb2.mono HB.out.size)
          | exact HB.out
  · have HF : Hid (M.right r m = false) := by
      show _ = _
      rw [← Bool.not_eq_true]
      intro hR
      have := right_out hR
      exact h12 ⟨by unfold oneOk; omega, by unfold twoOk; omega⟩
    have hq : q1 = false ∨ (q1 = true ∧ q2 = false) := by
      cases q1
      · exact .inl rfl
      · cases q2
        · exact .inr ⟨rfl, rfl⟩
        · exact absurd ⟨HQ1.out.1 rfl, HQ2.out.1 rfl⟩ h12
    clear h12
    rcases hq with rfl | ⟨rfl, rfl⟩
    all_goals
      go_wp2_with fail
      go_ret
      exact ⟨retb HF.out.symm, HB.out⟩
end
end Go.Proofs.Ytodmihpmbecncaa
