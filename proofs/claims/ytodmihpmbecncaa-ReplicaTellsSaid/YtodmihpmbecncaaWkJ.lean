/-
  The walk of replica.appended: it computes what the model says.
-/
import Derived.Test.YtodmihpmbecncaaWkI
namespace Go.Proofs.Ytodmihpmbecncaa
open Go.RowKit

section
variable {w : World} {b : Nat} {r : Rep} {A : Option Addr} {cap : Nat}

theorem appended_no {m : Msg} (h : r.role ≠ 2 ∨ m.term ≠ r.hard.term ∨ (m.yes = true ∧ (r.log.length : Int) < m.index)) : M.appended r m = (r, M.noOut) := by
  unfold M.appended
  rw [if_pos h]

set_option maxHeartbeats 800000 in
theorem appended_calls_no (h : RepOk w b r A cap) (m : Msg) (n : Nat) (mA : Option Addr) (mc : Nat) (hno : r.role ≠ 2 ∨ m.term ≠ r.hard.term ∨ (m.yes = true ∧ (r.log.length : Int) < m.index)) :
    Calls Try.prog 45 #[.pointer (some ⟨b, 0, none⟩), msgVal m (.slice mA n mc)] w (After w b A (M.appended r m).1 (M.appended r m).2) := by
  rw [appended_no hno]
  unfold msgVal msgCells
  have hb := h.lt
  obtain ⟨c0, c1, c2, c3, c4, _⟩ := h.cells
  have hlen := h.wf.len
  have HH := Lib.hid h
  clear h
  have hd : (r.role != 2) = true ∨ ((r.role != 2) = false ∧ (m.term != r.hard.term) = true) ∨ ((r.role != 2) = false ∧ (m.term != r.hard.term) = false ∧ m.yes = true ∧ decide ((r.log.length : Int) < m.index) = true) := by
    by_cases h1 : r.role = 2
    · by_cases h2 : m.term = r.hard.term
      · right; right; refine ⟨by simp [h1], by simp [h2], ?_⟩
        rcases hno with h | h | h
        · exact absurd h1 h
        · exact absurd h2 h
        · exact ⟨h.1, by simpa using h.2⟩
      · right; left; exact ⟨by simp [h1], by simp [h2]⟩
    · left; simp [h1]
  clear hno
  go_enter Try.func45, Try.ntmps45
  go_wp2_with fail
  rcases hd with d1 | ⟨d1, d2⟩ | ⟨d1, d2, d3, d4⟩
  all_goals go_quiet (fail)
  all_goals
    go_upto_region 2 with fail
    refine wp_world (fun W => RepOk W b r A cap ∧ Fr (RepS b A) w W ∧ W.heap[w.heap.size + 1]? = some (.cells #[.bool false, .int .i64 0, .int .i64 0, .int .i64 0, .slice none 0 0, .slice none 0 0] 45))
      ⟨((HH.out.alloc _).alloc _).below (below_drewN (Below.refl _ _) _) (Nat.le_refl _), (((Fr.refl _ w).alloc _).alloc _).trans (Fr.of_below (below_drewN (Below.refl _ _) _)), heap_alloc2_new w _ _⟩ ?_
    rintro W ⟨hR, hF, hZ⟩
    have HR := Lib.hid hR
    have HF := Lib.hid hF
    have HZ := Lib.hid hZ
    clear hR hF hZ
    go_wp2_with (refine wpList_store_list rfl 45 (.tmp 4) (.tmp 36) rfl (w.heap.size + 1) _ rfl rfl 45 _ HZ.out 6 size45 rfl rfl rfl ?_)
    exact bodyPost_ret (v := _) (results_cell_row rfl _ _ (w.heap.size + 1) 45 _ (0, 0) _ rfl (setRow_heap _ _ _ _ _ _ HZ.out) Try.underlying45 rfl size45) rfl
      (after_setRow (o := M.noOut) (rv := .slice none 0 0) (sv := .slice none 0 0) HR.out (.inl rfl) (OutOk.nil _ _) HF.out ⟨_, _, HZ.out⟩ (by omega) _)

theorem M.WF.next {r : Rep} (h : M.WF r) (j : Nat) {t : Int} (h1 : 1 ≤ t) (h2 : t ≤ r.log.length + 1) : M.WF { r with next := r.next.set j t } :=
  { h with
    nextN := by simpa using h.nextN
    nexts := fun e i hi => by
      have := h.nexts e i hi
      show 1 ≤ (r.next.set j t).getD i 0 ∧ (r.next.set j t).getD i 0 ≤ _
      rw [List.getD_eq_getElem?_getD, List.getElem?_set]
      by_cases hji : j = i
      · subst hji
        rw [if_pos rfl, if_pos (by rw [h.nextN]; exact hi)]
        exact ⟨h1, h2⟩
      · rw [if_neg hji, ← List.getD_eq_getElem?_getD]; exact this }
theorem M.WF.mtch {r : Rep} (h : M.WF r) (j : Nat) {t : Int} (h1 : 0 ≤ t) (h2 : t ≤ r.log.length) : M.WF { r with mtch := r.mtch.set j t } :=
  { h with
    mtchN := by simpa using h.mtchN
    mtchs := fun e i hi => by
      have := h.mtchs e i hi
      show 0 ≤ (r.mtch.set j t).getD i 0 ∧ (r.mtch.set j t).getD i 0 ≤ _
      rw [List.getD_eq_getElem?_getD, List.getElem?_set]
      by_cases hji : j = i
      · subst hji
        rw [if_pos rfl, if_pos (by rw [h.mtchN]; exact hi)]
        exact ⟨h1, h2⟩
      · rw [if_neg hji, ← List.getD_eq_getElem?_getD]; exact this }

set_option maxHeartbeats 1600000 in
theorem appended_calls_nack (h : RepOk w b r A cap) (m : Msg) (n : Nat) (mA : Option Addr) (mc : Nat) (h1 : r.role = 2) (h2 : m.term = r.hard.term) (h3 : m.yes = false) (hf0 : 0 ≤ m.fr) (hf2 : m.fr ≤ 2) (hi0 : 0 ≤ m.index) (hi4 : m.index ≤ 4000) :
    Calls Try.prog 45 #[.pointer (some ⟨b, 0, none⟩), msgVal m (.slice mA n mc)] w (After w b A (M.appended r m).1 (M.appended r m).2) := by
  unfold msgVal msgCells
  have hb := h.lt
  obtain ⟨c0, c1, c2, c3, c4, _⟩ := h.cells
  obtain ⟨fr, hfr⟩ := Int.eq_ofNat_of_zero_le hf0
  have hfr3 : fr < 3 := by omega
  have hfrI : (fr : Int) < 3 := by omega
  have v9 := h.next fr hfr3
  have v12 := h.mtch fr hfr3
  have f9 := h.free (9 + fr)
  have hlen := h.wf.len
  have hnx := h.wf.nexts h1 fr hfr3
  have hmt := h.wf.mtchs h1 fr hfr3
  have HH := Lib.hid h
  have HF := Lib.hid hfr
  have HRL := Lib.hid h1
  have d1 : (r.role != 2) = false := by simp [h1]
  have d2 : (m.term != r.hard.term) = false := by simp [h2]
  have hR : M.appended r m = ({ r with next := r.next.set fr (max (r.mtch.getD fr 0 + 1) (min (r.next.getD fr 0 - 1) (m.index + 1))) }, M.answer (M.entries { r with next := r.next.set fr (max (r.mtch.getD fr 0 + 1) (min (r.next.getD fr 0 - 1) (m.index + 1))) } fr)) := by
    unfold M.appended
    rw [if_neg (by rintro (h | h | h)
                   · exact h h1
                   · exact h h2
                   · rw [h3] at h; cases h.1)]
    simp only [h3, if_true, hfr, Int.toNat_natCast]
  generalize hX : max (r.mtch.getD fr 0 + 1) (min (r.next.getD fr 0 - 1) (m.index + 1)) = X at hR
  have hX1 : 1 ≤ X := by omega
  have hX2 : X ≤ r.log.length + 1 := by omega
  have HR := Lib.hid hR
  have HX := Lib.hid hX
  clear h h1 h2 hfr hR hX
  generalize r.mtch.getD fr 0 = mt at *
  generalize r.next.getD fr 0 = nx at *
  go_enter Try.func45, Try.ntmps45
  go_wp2_with fail
  go_quiet (fail)
  go_wp2_with fail
  rw [HF.out]
  go_region
  all_goals go_wp2_with fail
  all_goals go_region
  all_goals go_upto_region 6 with fail
  all_goals
    generalize hY : (if m.index + 1 < nx - 1 then m.index + 1 else nx - 1) = Y
    generalize hX' : (if mt + 1 < Y then Y else mt + 1) = X'
    have hif : X' = X := by
      rw [← hX', ← hY, ← HX.out]
      split <;> split <;> omega
    clear hX' hY
    subst X'
    refine wp_world (fun W => RepOk W b { r with next := r.next.set fr X } A cap ∧ Fr (RepS b A) w W ∧ W.cell? ⟨w.heap.size, 1, none⟩ = some (.int .i64 fr) ∧ w.heap.size + 1 < W.heap.size ∧
        W.heap[w.heap.size + 1]? = some (.cells #[.bool false, .int .i64 0, .int .i64 0, .int .i64 0, .slice none 0 0, .slice none 0 0] 45)) ⟨⟨?_, HH.out.wf.next fr hX1 hX2⟩, ?_, ?_, ?_, ?_⟩ ?_
    · exact RepB.putNext (((HH.out.alloc _).alloc _).below (below_drewN (Below.refl _ _) _) (Nat.le_refl _)).toRepB fr hfr3 X
    · exact (((((Fr.refl _ w).alloc _).alloc _).trans (Fr.of_below (below_drewN (Below.refl _ _) _)))).setCell (p := ⟨b, 9 + fr, none⟩) (.inl (.inl rfl)) _
    · go_simp
    · simp
    · exact (other_blk (by show w.heap.size + 1 ≠ b; omega)).trans (heap_alloc2_new w _ _)
    rintro W ⟨hRW, hFW, m1, hsW, hzW⟩
    clear c0 c1 c2 c3 c4 v9 v12 f9
    have hbW := hRW.lt
    have HFW := Lib.hid hFW
    have HZW := Lib.hid hzW
    have HNX := Lib.hid (hRW.wf.nexts HRL.out fr hfr3)
    generalize hr1 : ({ r with next := r.next.set fr X } : Rep) = r1 at hRW HR HNX
    clear hr1
    have HRW := Lib.hid hRW
    clear hFW hzW hRW HX
    go_wp2_with fail
    refine (entries_calls HRW.out fr hfr3 HNX.out.1 HNX.out.2).mono ?_
    rintro e w2 ⟨ev, rfl, ho2, hb2⟩
    obtain ⟨eA, ec, rfl⟩ := own_form ho2
    have HO2 := Lib.hid ho2
    have HB2 := Lib.hid hb2
    have hs2 := hb2.size
    clear ho2 hb2
    unfold msgVal msgCells
    go_wp2_with fail
    show Calls Try.prog 58 #[msgVal (M.entries r1 fr) (.slice eA (M.entries r1 fr).recs.length ec)] _ _
    have hbs : w.heap.size ≤ w2.heap.size := by omega
    refine (answer_calls (M.entries r1 fr) (.slice eA (M.entries r1 fr).recs.length ec) w2 w.heap.size hbs (own_mono HO2.out (by omega))).mono ?_
    rintro e w3 ⟨rv, sv, rfl, hok, hb3⟩
    obtain ⟨rA, rc, rfl⟩ := own_form hok.recs
    obtain ⟨sA, sc, rfl⟩ := msgs_form hok.send
    have HZ := Lib.hid ((hb3.block _ (by omega)).trans ((HB2.out.block _ hsW).trans HZW.out))
    have HOK := Lib.hid hok
    have HB3 := Lib.hid hb3
    clear hok hb3
    unfold outVal
    go_wp2_with (refine wpList_store_list rfl 45 (.tmp 4) (.tmp 71) rfl (w.heap.size + 1) _ rfl rfl 45 _ HZ.out 6 size45 rfl rfl rfl ?_)
    refine bodyPost_ret (v := _) (results_cell_row rfl _ _ (w.heap.size + 1) 45 _ (0, 0) _ rfl (setRow_heap _ _ _ _ _ _ HZ.out) Try.underlying45 rfl size45) rfl ?_
    rw [HR.out]
    exact after_setRow ((HRW.out.below HB2.out (Nat.le_refl _)).below HB3.out (Nat.le_refl _)) (.inl rfl) HOK.out ((HFW.out.trans (Fr.of_below HB2.out)).trans (Fr.of_below HB3.out)) ⟨_, _, HZ.out⟩ (by omega) _

theorem advance_log (r : Rep) : (M.advance r).log = r.log ∧ (M.advance r).next = r.next ∧ (M.advance r).role = r.role := by
  rw [advance_eq]; split <;> exact ⟨rfl, rfl, rfl⟩

set_option maxHeartbeats 1600000 in
theorem appended_calls_ack (h : RepOk w b r A cap) (m : Msg) (n : Nat) (mA : Option Addr) (mc : Nat) (h1 : r.role = 2) (h2 : m.term = r.hard.term) (h3 : m.yes = true) (hf0 : 0 ≤ m.fr) (hf2 : m.fr ≤ 2) (hi0 : 0 ≤ m.index) (hi4 : m.index ≤ r.log.length) :
    Calls Try.prog 45 #[.pointer (some ⟨b, 0, none⟩), msgVal m (.slice mA n mc)] w (After w b A (M.appended r m).1 (M.appended r m).2) := by
  unfold msgVal msgCells
  have hb := h.lt
  obtain ⟨c0, c1, c2, c3, c4, _⟩ := h.cells
  obtain ⟨fr, hfr⟩ := Int.eq_ofNat_of_zero_le hf0
  have hfr3 : fr < 3 := by omega
  have hfrI : (fr : Int) < 3 := by omega
  have v9 := h.next fr hfr3
  have v12 := h.mtch fr hfr3
  have f9 := h.free (9 + fr)
  have f12 := h.free (12 + fr)
  have hlen := h.wf.len
  have hmt := h.wf.mtchs h1 fr hfr3
  have HH := Lib.hid h
  have HF := Lib.hid hfr
  have HRL := Lib.hid h1
  have d1 : (r.role != 2) = false := by simp [h1]
  have d2 : (m.term != r.hard.term) = false := by simp [h2]
  have hR : M.appended r m = if max (r.mtch.getD fr 0) m.index + 1 ≤ (r.log.length : Int) then (M.advance { r with mtch := r.mtch.set fr (max (r.mtch.getD fr 0) m.index), next := r.next.set fr (max (r.mtch.getD fr 0) m.index + 1) }, M.answer (M.entries (M.advance { r with mtch := r.mtch.set fr (max (r.mtch.getD fr 0) m.index), next := r.next.set fr (max (r.mtch.getD fr 0) m.index + 1) }) fr)) else (M.advance { r with mtch := r.mtch.set fr (max (r.mtch.getD fr 0) m.index), next := r.next.set fr (max (r.mtch.getD fr 0) m.index + 1) }, M.noOut) := by
    unfold M.appended
    rw [if_neg (by rintro (h | h | h)
                   · exact h h1
                   · exact h h2
                   · omega)]
    simp only [h3, hfr, Int.toNat_natCast, (advance_log _).1]
    rfl
  generalize hX : max (r.mtch.getD fr 0) m.index = X at hR
  have hX1 : 0 ≤ X := by omega
  have hX2 : X ≤ r.log.length := by omega
  have d4 : decide ((r.log.length : Int) < m.index) = false := by simpa using hi4
  have HR := Lib.hid hR
  have HX := Lib.hid hX
  clear h h1 h2 hfr hR hX
  generalize r.mtch.getD fr 0 = mt at *
  go_enter Try.func45, Try.ntmps45
  go_wp2_with fail
  go_quiet (fail)
  go_wp2_with fail
  rw [HF.out]
  go_region
  all_goals go_wp2_with fail
  all_goals go_region
  all_goals
    generalize hX' : (if mt < m.index then m.index else mt) = X'
    have hif : X' = X := by
      rw [← hX', ← HX.out]
      split <;> omega
    clear hX'
    subst X'
    go_upto_region 8 with fail
    refine wp_world (fun W => RepB W b { r with mtch := r.mtch.set fr X } A cap ∧ Fr (RepS b A) w W ∧ W.cell? ⟨w.heap.size, 1, none⟩ = some (.int .i64 fr) ∧ w.heap.size + 1 < W.heap.size ∧
      W.heap[w.heap.size + 1]? = some (.cells #[.bool false, .int .i64 0, .int .i64 0, .int .i64 0, .slice none 0 0, .slice none 0 0] 45)) ⟨?_, ?_, ?_, ?_, ?_⟩ ?_
    · exact RepB.putMtch (((HH.out.alloc _).alloc _).below (below_drewN (Below.refl _ _) _) (Nat.le_refl _)).toRepB fr hfr3 X
    · exact ((((Fr.refl _ w).alloc _).alloc _).trans (Fr.of_below (below_drewN (Below.refl _ _) _))).setCell (p := ⟨b, 12 + fr, none⟩) (.inl (.inl rfl)) _
    · go_simp
    · simp
    · exact (other_blk (by show w.heap.size + 1 ≠ b; omega)).trans (heap_alloc2_new w _ _)
    rintro W0 ⟨hRW, hFW, m1, hsW, hzW⟩
    clear c0 c1 c2 c3 c4 v9 v12 f9 f12
    have v12 := hRW.mtch fr hfr3
    have hnx : ((r.mtch.set fr X).getD fr 0) = X := by
      rw [List.getD_eq_getElem?_getD, List.getElem?_set, if_pos rfl, if_pos (by rw [HH.out.mN]; exact hfr3)]; rfl
    change W0.cell? _ = some (.int .i64 ((r.mtch.set fr X).getD fr 0)) at v12
    rw [hnx] at v12
    have f9 := hRW.free (9 + fr)
    have v9 := hRW.next fr hfr3
    have hbW := hRW.lt
    have HFW := Lib.hid hFW
    have HZW := Lib.hid hzW
    have HRW := Lib.hid hRW
    clear hnx hFW hzW hRW
    go_upto_region 9 with fail
    refine wp_world (fun W => RepOk W b { r with mtch := r.mtch.set fr X, next := r.next.set fr (X + 1) } A cap ∧ Fr (RepS b A) w W ∧ W.cell? ⟨w.heap.size, 1, none⟩ = some (.int .i64 fr) ∧ w.heap.size + 1 < W.heap.size ∧
      W.heap[w.heap.size + 1]? = some (.cells #[.bool false, .int .i64 0, .int .i64 0, .int .i64 0, .slice none 0 0, .slice none 0 0] 45)) ⟨⟨?_, (HH.out.wf.mtch fr hX1 hX2).next fr (by omega) (by show X + 1 ≤ (r.log.length : Int) + 1; omega)⟩, ?_, ?_, ?_, ?_⟩ ?_
    · exact RepB.putNext HRW.out fr hfr3 (X + 1)
    · exact HFW.out.setCell (p := ⟨b, 9 + fr, none⟩) (.inl (.inl rfl)) _
    · go_simp
    · simp; omega
    · exact (other_blk (by show w.heap.size + 1 ≠ b; omega)).trans HZW.out
    clear v9 v12 f9 HFW HZW HRW m1 hsW hbW
    rintro W ⟨hRW, hFW, m1, hsW, hzW⟩
    have HFW := Lib.hid hFW
    have HZW := Lib.hid hzW
    have HRW := Lib.hid hRW
    clear hFW hzW hRW HX
    go_wp2_with fail
    refine (advance_calls HRW.out (HRW.out.wf.mtchs HRL.out)).mono ?_
    rintro e V ⟨rfl, hRV, hFV⟩
    obtain ⟨hl1, hl2, hl3⟩ := advance_log { r with mtch := r.mtch.set fr X, next := r.next.set fr (X + 1) }
    have v9 := hRV.next fr hfr3
    have c3 := hRV.cells.2.2.2.1
    have hnx : ((r.next.set fr (X + 1)).getD fr 0) = X + 1 := by
      rw [List.getD_eq_getElem?_getD, List.getElem?_set, if_pos rfl, if_pos (by rw [HH.out.nN]; exact hfr3)]; rfl
    rw [hl2] at v9
    change V.cell? _ = some (.int .i64 ((r.next.set fr (X + 1)).getD fr 0)) at v9
    rw [hnx] at v9
    rw [hl1] at c3
    have HNX := Lib.hid (hRV.wf.nexts (by rw [hl3]; exact HRL.out) fr hfr3)
    generalize hr1 : M.advance { r with mtch := r.mtch.set fr X, next := r.next.set fr (X + 1) } = r1 at hRV HR HNX
    clear hr1 hl1 hl2 hl3 hnx
    have hbV := hRV.lt
    have hb := HH.out.lt
    have m1 : V.cell? ⟨w.heap.size, 1, none⟩ = some (.int .i64 fr) := by
      refine (World.cell?_of_block (w := W) (hFV.block w.heap.size (by omega) ?_)).trans m1
      rintro (q | ⟨ad, q1, q2⟩)
      · omega
      · have := HH.out.rowLt ad q1
        omega
    have hzV := (hFV.block (w.heap.size + 1) hsW (by
      rintro (q | ⟨ad, q1, q2⟩)
      · omega
      · have := HH.out.rowLt ad q1
        omega)).trans HZW.out
    have HFV := Lib.hid (HFW.out.trans hFV)
    have HZV := Lib.hid hzV
    have HRV := Lib.hid hRV
    have hsV := hFV.size
    clear hFV hzV hRV HFW HZW HRW
    by_cases hlt : X + 1 ≤ (r.log.length : Int)
    · have hR := HR.out
      rw [if_pos hlt] at hR
      have HR2 := Lib.hid hR
      clear hR HR
      go_wp2_with fail
      go_quiet (fail)
      go_wp2_with fail
      refine calls_world (fun W => RepOk W b r1 A cap ∧ Fr (RepS b A) w W ∧ W.heap.size = V.heap.size ∧ W.heap[w.heap.size + 1]? = some (.cells #[.bool false, .int .i64 0, .int .i64 0, .int .i64 0, .slice none 0 0, .slice none 0 0] 45))
        ⟨HRV.out.drewN _, HFV.out.drewNs _, rfl, HZV.out⟩ ?_
      clear HFV HZV HRV m1 v9 c3
      rintro U ⟨hRU, hFU, hsU, hzU⟩
      have HFU := Lib.hid hFU
      have HZU := Lib.hid hzU
      have HRU := Lib.hid hRU
      clear hFU hzU hRU
      refine (entries_calls HRU.out fr hfr3 HNX.out.1 HNX.out.2).mono ?_
      rintro e w2 ⟨ev, rfl, ho2, hb2⟩
      obtain ⟨eA, ec, rfl⟩ := own_form ho2
      have HO2 := Lib.hid ho2
      have HB2 := Lib.hid hb2
      have hs2 := hb2.size
      clear ho2 hb2
      unfold msgVal msgCells
      go_wp2_with fail
      show Calls Try.prog 58 #[msgVal (M.entries r1 fr) (.slice eA (M.entries r1 fr).recs.length ec)] _ _
      have hbs : w.heap.size ≤ w2.heap.size := by omega
      refine (answer_calls (M.entries r1 fr) (.slice eA (M.entries r1 fr).recs.length ec) w2 w.heap.size hbs (own_mono HO2.out (by omega))).mono ?_
      rintro e w3 ⟨rv, sv, rfl, hok, hb3⟩
      obtain ⟨rA, rc, rfl⟩ := own_form hok.recs
      obtain ⟨sA, sc, rfl⟩ := msgs_form hok.send
      have HZ := Lib.hid ((hb3.block _ (by omega)).trans ((HB2.out.block _ (by omega)).trans HZU.out))
      have HOK := Lib.hid hok
      have HB3 := Lib.hid hb3
      clear hok hb3
      unfold outVal
      go_wp2_with (refine wpList_store_list rfl 45 (.tmp 4) (.tmp 101) rfl (w.heap.size + 1) _ rfl rfl 45 _ HZ.out 6 size45 rfl rfl rfl ?_)
      refine bodyPost_ret (v := _) (results_cell_row rfl _ _ (w.heap.size + 1) 45 _ (0, 0) _ rfl (setRow_heap _ _ _ _ _ _ HZ.out) Try.underlying45 rfl size45) rfl ?_
      rw [HR2.out]
      exact after_setRow ((HRU.out.below HB2.out (Nat.le_refl _)).below HB3.out (Nat.le_refl _)) (.inl rfl) HOK.out ((HFU.out.trans (Fr.of_below HB2.out)).trans (Fr.of_below HB3.out)) ⟨_, _, HZ.out⟩ (by omega) _
    · have hR := HR.out
      rw [if_neg hlt] at hR
      have HR2 := Lib.hid hR
      clear hR HR
      go_wp2_with fail
      go_quiet (fail)
      go_upto_region 12 with fail
      refine wp_world (fun W => RepOk W b r1 A cap ∧ Fr (RepS b A) w W ∧ W.heap[w.heap.size + 1]? = some (.cells #[.bool false, .int .i64 0, .int .i64 0, .int .i64 0, .slice none 0 0, .slice none 0 0] 45))
        ⟨HRV.out.drewN _, HFV.out.drewNs _, HZV.out⟩ ?_
      clear HFV HZV HRV m1 v9 c3
      rintro U ⟨hRU, hFU, hzU⟩
      have HFU := Lib.hid hFU
      have HZU := Lib.hid hzU
      have HRU := Lib.hid hRU
      clear hFU hzU hRU
      go_wp2_with (refine wpList_store_list rfl 45 (.tmp 4) (.tmp 102) rfl (w.heap.size + 1) _ rfl rfl 45 _ HZU.out 6 size45 rfl rfl rfl ?_)
      refine bodyPost_ret (v := _) (results_cell_row rfl _ _ (w.heap.size + 1) 45 _ (0, 0) _ rfl (setRow_heap _ _ _ _ _ _ HZU.out) Try.underlying45 rfl size45) rfl ?_
      rw [HR2.out]
      exact after_setRow (o := M.noOut) (rv := .slice none 0 0) (sv := .slice none 0 0) HRU.out (.inl rfl) (OutOk.nil _ _) HFU.out ⟨_, _, HZU.out⟩ (by omega) _

theorem appended_calls (h : RepOk w b r A cap) (m : Msg) (n : Nat) (mA : Option Addr) (mc : Nat) (hf0 : 0 ≤ m.fr) (hf2 : m.fr ≤ 2) (hi0 : 0 ≤ m.index) (hi4 : m.index ≤ 4000) :
    Calls Try.prog 45 #[.pointer (some ⟨b, 0, none⟩), msgVal m (.slice mA n mc)] w (After w b A (M.appended r m).1 (M.appended r m).2) := by
  by_cases hno : r.role ≠ 2 ∨ m.term ≠ r.hard.term ∨ (m.yes = true ∧ (r.log.length : Int) < m.index)
  · exact appended_calls_no h m n mA mc hno
  · have h1 : r.role = 2 := Decidable.byContradiction fun h1 => hno (.inl h1)
    have h2 : m.term = r.hard.term := Decidable.byContradiction fun h1 => hno (.inr (.inl h1))
    cases hy : m.yes with
    | false => exact appended_calls_nack h m n mA mc h1 h2 hy hf0 hf2 hi0 hi4
    | true => exact appended_calls_ack h m n mA mc h1 h2 hy hf0 hf2 hi0 (by
        rcases Int.lt_or_le (r.log.length : Int) m.index with q | q
        · exact absurd (.inr (.inr ⟨hy, q⟩)) hno
        · exact q)
end
end Go.Proofs.Ytodmihpmbecncaa
