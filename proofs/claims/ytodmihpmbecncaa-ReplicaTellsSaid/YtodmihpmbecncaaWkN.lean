/-
  The walk of replica.New: it computes what the model says.
-/
import Derived.Test.YtodmihpmbecncaaWkM
namespace Go.Proofs.Ytodmihpmbecncaa
open Go.RowKit

theorem M.WF.new {id : Int} {h : Hard} {log : List Rec} (k1 : M.between id 0 2 = true) (k2 : M.between h.term 0 1099511627776 = true) (k3 : M.between h.vote (-1) 2 = true) (k4 : log.length ≤ 4000) (k5 : M.sound log 1 h.term = true) :
    M.WF ⟨id, h, log, 0, 0, [false, false, false], [0, 0, 0], [0, 0, 0]⟩ := by
  unfold M.between at k1 k2 k3
  simp only [Bool.and_eq_true, decide_eq_true_eq] at k1 k2 k3
  exact { id0 := k1.1, id2 := k1.2, term0 := k2.1, termM := k2.2, vote0 := k3.1, vote2 := k3.2, len := k4, logOk := k5, role0 := Int.le_refl _, role2 := by show (0 : Int) ≤ 2; omega, commit0 := Int.le_refl _, commitN := by show (0 : Int) ≤ (log.length : Int); omega,
          votesN := rfl, nextN := rfl, mtchN := rfl, nexts := fun (e : (0 : Int) = 2) => absurd e (by decide), mtchs := fun (e : (0 : Int) = 2) => absurd e (by decide) }

/-- What New leaves. -/
def NewPost (w : World) (id : Int) (h : Hard) (log : List Rec) (e : Ending) (w' : World) : Prop :=
  (M.new id h log = none ∧ e = .returned (.pointer none) ∧ Below w.heap.size w w') ∨
  (∃ r b A cap, M.new id h log = some r ∧ e = .returned (.pointer (some ⟨b, 0, none⟩)) ∧ w.heap.size ≤ b ∧ RepOk w' b r A cap ∧ (∀ ad, A = some ad → w.heap.size ≤ ad.block) ∧ Below w.heap.size w w')

theorem new_none {id : Int} {h : Hard} {log : List Rec} (hq : M.between id 0 2 = false ∨ M.between h.term 0 1099511627776 = false ∨ M.between h.vote (-1) 2 = false ∨ 4000 < log.length ∨ M.sound log 1 h.term = false) : M.new id h log = none := by
  unfold M.new
  rw [if_neg]
  intro hc
  simp only [Bool.and_eq_true, decide_eq_true_eq] at hc
  obtain ⟨⟨⟨⟨h1, h2⟩, h3⟩, h4⟩, h5⟩ := hc
  rcases hq with q | q | q | q | q
  · rw [h1] at q; cases q
  · rw [h2] at q; cases q
  · rw [h3] at q; cases q
  · omega
  · rw [h5] at q; cases q

set_option maxHeartbeats 1600000 in
theorem new_calls {ok : Nat → Prop} {w : World} (id : Int) (h : Hard) (log : List Rec) (v : Value) (hs : Sl w ok 2 v log.length (recsCells log)) :
    Calls Try.prog 21 #[.int .i64 id, .agg #[.int .i64 h.term, .int .i64 h.vote], v] w (NewPost w id h log) := by
  obtain ⟨lA, lc, rfl⟩ := Sl.form hs
  have hlen := hs.2.1
  have HS := Lib.hid hs
  clear hs
  have HN := Lib.hid (@new_none id h log)
  have HS1 := Lib.hid (HS.out.below (w' := w.alloc (.cells #[.int .i64 h.term, .int .i64 h.vote] 40)) ((Below.refl w.heap.size w).alloc (Nat.le_refl _) _) (Nat.le_refl _))
  cases k1 : M.between id 0 2
  · go_enter Try.func21, Try.ntmps21
    go_wp2_with (first | (go_at_call 38; refine (between_any _ _ _ _).mono ?_; rintro e w' ⟨rfl, rfl⟩))
    go_ret
    exact .inl ⟨HN.out (.inl k1), rfl, by first | exact Below.refl _ _ | exact (Below.refl w.heap.size w).alloc (Nat.le_refl _) _⟩
  cases k2 : M.between h.term 0 1099511627776
  · go_enter Try.func21, Try.ntmps21
    go_wp2_with (first | (go_at_call 38; refine (between_any _ _ _ _).mono ?_; rintro e w' ⟨rfl, rfl⟩))
    go_ret
    exact .inl ⟨HN.out (.inr (.inl k2)), rfl, by first | exact Below.refl _ _ | exact (Below.refl w.heap.size w).alloc (Nat.le_refl _) _⟩
  cases k3 : M.between h.vote (-1) 2
  · go_enter Try.func21, Try.ntmps21
    go_wp2_with (first | (go_at_call 38; refine (between_any _ _ _ _).mono ?_; rintro e w' ⟨rfl, rfl⟩))
    go_ret
    exact .inl ⟨HN.out (.inr (.inr (.inl k3))), rfl, by first | exact Below.refl _ _ | exact (Below.refl w.heap.size w).alloc (Nat.le_refl _) _⟩
  by_cases k4 : 4000 < log.length
  · have k4' : (4000 : Int) < (log.length : Int) := by omega
    go_enter Try.func21, Try.ntmps21
    go_wp2_with (first | (go_at_call 38; refine (between_any _ _ _ _).mono ?_; rintro e w' ⟨rfl, rfl⟩))
    go_ret
    exact .inl ⟨HN.out (.inr (.inr (.inr (.inl k4)))), rfl, by first | exact Below.refl _ _ | exact (Below.refl w.heap.size w).alloc (Nat.le_refl _) _⟩
  have k4' : (log.length : Int) ≤ 4000 := by omega
  cases k5 : M.sound log 1 h.term
  · go_enter Try.func21, Try.ntmps21
    go_wp2_with (first | (go_at_call 38; refine (between_any _ _ _ _).mono ?_; rintro e w' ⟨rfl, rfl⟩) | (go_at_call 39; refine (sound_calls (ok := ok) _ log _ _ _ HS1.out).mono ?_; rw [k5]; rintro e w2 ⟨rfl, hb2⟩))
    go_ret
    exact .inl ⟨HN.out (.inr (.inr (.inr (.inr k5)))), rfl, ((Below.refl w.heap.size w).alloc (Nat.le_refl _) _).trans (hb2.mono (by simp))⟩
  · have HSO := Lib.hid (sound_calls (ok := ok) (.slice lA log.length lc) log 1 h.term _ HS1.out)
    go_enter Try.func21, Try.ntmps21
    go_wp2_with (first | (go_at_call 38; refine (between_any _ _ _ _).mono ?_; rintro e w' ⟨rfl, rfl⟩) | (go_at_call 39; refine HSO.out.mono ?_; rw [k5]; rintro e w2 ⟨rfl, hb2⟩))
    have hbk : w2.heap[w.heap.size]? = some (.cells [.int .i64 h.term, .int .i64 h.vote].toArray 40) := (hb2.block w.heap.size (by simp)).trans (heap_alloc_new w _)
    have hb0 : Below w.heap.size w w2 := ((Below.refl w.heap.size w).alloc (Nat.le_refl _) _).trans (hb2.mono (by simp))
    have HS2 := Lib.hid (HS.out.below hb0 (Nat.le_refl _))
    have x0 := cell_blk hbk 0
    have x1 := cell_blk hbk 1
    simp only [List.getElem?_cons_succ, List.getElem?_cons_zero] at x0 x1
    have hL := lt_blk hbk
    have HBK := Lib.hid hbk
    have HB0 := Lib.hid hb0
    clear hb2 hbk hb0 HSO HS1
    go_region_law ((
      go_simp
      go_at_call 37
      refine (clone_calls _ log _ (HS2.out.below (Below.refl _ w2).drew (Nat.le_refl _)) (by omega)).mono ?_
      rintro e w3 ⟨tw, rfl, hown3, hb3⟩
      obtain ⟨tA, tc, rfl⟩ := own_form hown3
      have hb3' : Below w2.heap.size w2 w3 := (Below.refl _ w2).drew.trans hb3
      have hs3 := hb3'.size
      have y0 : w3.cell? ⟨w.heap.size, 0, none⟩ = some (.int .i64 h.term) := (hb3'.cell (p := ⟨w.heap.size, 0, none⟩) hL).trans x0
      have y1 : w3.cell? ⟨w.heap.size, 1, none⟩ = some (.int .i64 h.vote) := (hb3'.cell (p := ⟨w.heap.size, 1, none⟩) hL).trans x1
      go_wp2_with fail))
    all_goals
      go_wp2_with fail
      go_ret
      refine .inr ⟨⟨id, h, log, 0, 0, [false, false, false], [0, 0, 0], [0, 0, 0]⟩, w3.heap.size, tA, tc, ?_, rfl, ?_, ⟨⟨?_, ?_, ?_, rfl, rfl, rfl⟩, M.WF.new k1 k2 k3 (by omega) k5⟩, ?_, ?_⟩
      · unfold M.new
        rw [k1, k2, k3, k5, if_pos (by simp only [Bool.true_and, Bool.and_true, decide_eq_true_eq]; omega)]
      · have := HB0.out.size; omega
      · exact heap_alloc_new w3 _
      · exact own_mono (own_below hown3 ((Below.refl _ w3).alloc (Nat.le_refl _) _) (Nat.le_refl _)) (Nat.zero_le _)
      · intro ad e
        have := (own_lt hown3 (k := ad.block) (by rw [e]; rfl)).2
        omega
      · intro ad e
        have := (own_lt hown3 (k := ad.block) (by rw [e]; rfl)).1
        have h5 : (w2.drew).heap.size = w2.heap.size := rfl
        have := HB0.out.size
        omega
      · exact (HB0.out.trans (hb3'.mono HB0.out.size)).alloc (by have := HB0.out.size; omega) _
end Go.Proofs.Ytodmihpmbecncaa
