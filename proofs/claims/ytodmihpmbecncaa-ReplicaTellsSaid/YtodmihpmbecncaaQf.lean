/-
  The walk of the reference's appended: it computes what the model says.
-/
import Derived.Test.YtodmihpmbecncaaQe
import Derived.Test.YtodmihpmbecncaaPl
namespace Go.Proofs.Ytodmihpmbecncaa
open Go.RowKit

/-! ### The commit number, entry by entry -/
def cmTo (r : Rep) (most : Int) : Nat → Int
  | 0 => r.commit
  | j + 1 => if M.tm r.log (r.commit + j + 1) = r.hard.term ∧ r.commit + j + 1 ≤ most then r.commit + j + 1 else cmTo r most j
theorem cmTo_bd (r : Rep) (most : Int) : ∀ j, r.commit ≤ cmTo r most j ∧ cmTo r most j ≤ r.commit + j
  | 0 => by unfold cmTo; omega
  | j + 1 => by
    have := cmTo_bd r most j
    unfold cmTo
    split <;> omega
theorem tm_top {r : Rep} (hs : M.sound r.log 1 r.hard.term = true) {n i : Int} (h1 : 1 ≤ n) (h2 : n ≤ i) (h3 : i ≤ r.log.length) (h : M.tm r.log n = r.hard.term) : M.tm r.log i = r.hard.term := by
  have := M.srt_sound r.log 1 r.hard.term hs n.toNat i.toNat (by omega) (by omega) (by omega)
  unfold M.tn at this
  rw [Int.toNat_of_nonneg (by omega), Int.toNat_of_nonneg (by omega)] at this
  omega
theorem cmTo_no {r : Rep} (hs : M.sound r.log 1 r.hard.term = true) {most : Int} (h0 : 0 ≤ r.commit) (hm : most ≤ r.log.length) (hno : ¬ (r.commit < most ∧ M.tm r.log most = r.hard.term)) : ∀ j, cmTo r most j = r.commit
  | 0 => rfl
  | j + 1 => by
    unfold cmTo
    rw [if_neg, cmTo_no hs h0 hm hno j]
    rintro ⟨h1, h2⟩
    exact hno ⟨by omega, tm_top hs (by omega) h2 hm h1⟩
theorem cmTo_yes {r : Rep} {most : Int} (hc : r.commit < most) (ht : M.tm r.log most = r.hard.term) : ∀ j : Nat, most ≤ r.commit + j → cmTo r most j = most
  | 0, h => by omega
  | j + 1, h => by
    unfold cmTo
    by_cases he : most = r.commit + j + 1
    · rw [if_pos ⟨by rw [← he]; exact ht, by omega⟩, he]
    · rw [if_neg (by omega), cmTo_yes hc ht j (by omega)]
theorem mostOf_two {r : Rep} {id : Nat} (hi : r.id = id) (hid : id < 3) (hm : ∀ j : Nat, j < 3 → 0 ≤ r.mtch.getD j 0 ∧ r.mtch.getD j 0 ≤ r.log.length) :
    mostOf r (M.others r.id) = max (r.mtch.getD ((id + 1) % 3) 0) (r.mtch.getD ((id + 2) % 3) 0) := by
  rw [hi]
  have h1 : id = 0 ∨ id = 1 ∨ id = 2 := by omega
  have m0 := hm 0 (by omega)
  have m1 := hm 1 (by omega)
  have m2 := hm 2 (by omega)
  unfold mostOf M.others
  rcases h1 with rfl | rfl | rfl
  · show max (max 0 (r.mtch.getD 1 0)) (r.mtch.getD 2 0) = max (r.mtch.getD 1 0) (r.mtch.getD 2 0)
    omega
  · show max (max 0 (r.mtch.getD 0 0)) (r.mtch.getD 2 0) = max (r.mtch.getD 2 0) (r.mtch.getD 0 0)
    omega
  · show max (max 0 (r.mtch.getD 0 0)) (r.mtch.getD 1 0) = max (r.mtch.getD 0 0) (r.mtch.getD 1 0)
    omega
theorem cmTo_end {r : Rep} (W : M.WF r) (hm : ∀ j : Nat, j < 3 → 0 ≤ r.mtch.getD j 0 ∧ r.mtch.getD j 0 ≤ r.log.length) : { r with commit := cmTo r (mostOf r (M.others r.id)) (r.log.length - r.commit.toNat) } = M.advance r := by
  have hbd := mostOf_bd r hm 2 (Nat.le_refl _)
  rw [List.take_of_length_le (by rw [others_len]; omega)] at hbd
  have h0 := W.commit0
  have hN := W.commitN
  rw [advance_eq]
  split
  · rename_i h
    rw [cmTo_yes h.1 h.2 _ (by omega)]
  · rename_i h
    rw [cmTo_no W.logOk h0 hbd.2 h]

section
variable {w : World} {b : Nat} {r : Rep} {A : Option Addr} {cap gv gn gm : Nat}

set_option maxRecDepth 10000 in
set_option maxHeartbeats 800000 in
theorem qappended_calls_no (h : QOk w b r A cap gv gn gm) (m : Msg) (n : Nat) (mA : Option Addr) (mc : Nat) (hno : r.role ≠ 2 ∨ m.term ≠ r.hard.term ∨ (m.yes = true ∧ (r.log.length : Int) < m.index)) :
    Calls Try.prog 50 #[.pointer (some ⟨b, 0, none⟩), msgVal m (.slice mA n mc)] w (AfterQ w b A gv gn gm (M.appended r m).1 (M.appended r m).2) := by
  rw [appended_no hno]
  unfold msgVal msgCells
  have hb := h.lt
  obtain ⟨c0, c1, c2, c3, c4, _⟩ := h.cells
  have hlen := h.wf.len
  have HH := Lib.hid h
  clear h
  have hd : (r.role != 2) = true ∨ ((r.role != 2) = false ∧ (m.term != r.hard.term) = true) ∨ ((r.role != 2) = false ∧ (m.term != r.hard.term) = false ∧ m.yes = true ∧ decide ((r.log.length : Int) < m.index) = true) := by
    by_cases h1 : r.role = 2
    · by_cases h2 : m.term = r.hard.term
      · right; right; refine ⟨by simp [h1], by simp [h2], ?_⟩
        rcases hno with h | h | h
        · exact absurd h1 h
        · exact absurd h2 h
        · exact ⟨h.1, by simpa using h.2⟩
      · right; left; exact ⟨by simp [h1], by simp [h2]⟩
    · left; simp [h1]
  clear hno
  go_enter Try.func50, Try.ntmps50
  go_wp2_with fail
  rcases hd with d1 | ⟨d1, d2⟩ | ⟨d1, d2, d3, d4⟩
  all_goals go_quiet (fail)
  all_goals
    go_upto_region 2 with fail
    refine wp_world (fun W => QOk W b r A cap gv gn gm ∧ Fr (QS b A gv gn gm) w W ∧ W.heap[w.heap.size + 1]? = some (.cells #[.bool false, .int .i64 0, .int .i64 0, .int .i64 0, .slice none 0 0, .slice none 0 0] 45))
      ⟨((HH.out.alloc _).alloc _).below (below_drewN (Below.refl _ _) _) (Nat.le_refl _), (((Fr.refl _ w).alloc _).alloc _).trans (Fr.of_below (below_drewN (Below.refl _ _) _)), heap_alloc2_new w _ _⟩ ?_
    rintro W ⟨hR, hF, hZ⟩
    have HR := Lib.hid hR
    have HF := Lib.hid hF
    have HZ := Lib.hid hZ
    clear hR hF hZ
    go_wp2_with (refine wpList_store_list rfl 45 (.tmp 4) (.tmp 36) rfl (w.heap.size + 1) _ rfl rfl 45 _ HZ.out 6 size45 rfl rfl rfl ?_)
    exact bodyPost_ret (v := _) (results_cell_row rfl _ _ (w.heap.size + 1) 45 _ (0, 0) _ rfl (setRow_heap _ _ _ _ _ _ HZ.out) Try.underlying45 rfl size45) rfl
      (afterq_setRow (o := M.noOut) (rv := .slice none 0 0) (sv := .slice none 0 0) HR.out (fun k hk => .inl hk) (OutOk.nil _ _) HF.out ⟨_, _, HZ.out⟩ (by omega) _)

set_option maxRecDepth 10000 in
set_option maxHeartbeats 1600000 in
theorem qappended_calls_nack (h : QOk w b r A cap gv gn gm) (m : Msg) (n : Nat) (mA : Option Addr) (mc : Nat) (h1 : r.role = 2) (h2 : m.term = r.hard.term) (h3 : m.yes = false) (hf0 : 0 ≤ m.fr) (hf2 : m.fr ≤ 2) (hi0 : 0 ≤ m.index) (hi4 : m.index ≤ 4000) :
    Calls Try.prog 50 #[.pointer (some ⟨b, 0, none⟩), msgVal m (.slice mA n mc)] w (AfterQ w b A gv gn gm (M.appended r m).1 (M.appended r m).2) := by
  unfold msgVal msgCells
  have hb := h.lt
  obtain ⟨c0, c1, c2, c3, c4, c5, c6, c7, c8⟩ := h.cells
  obtain ⟨fr, hfr⟩ := Int.eq_ofNat_of_zero_le hf0
  have hfr3 : fr < 3 := by omega
  have hfrI : (fr : Int) < 3 := by omega
  have v9 := h.next fr hfr3
  have v12 := h.mtch fr hfr3
  have f9 := h.freen fr
  have hgn := lt_blk h.no
  have hgm := lt_blk h.mo
  have hlen := h.wf.len
  have hnx := h.wf.nexts h1 fr hfr3
  have hmt := h.wf.mtchs h1 fr hfr3
  have HH := Lib.hid h
  have HF := Lib.hid hfr
  have HRL := Lib.hid h1
  have d1 : (r.role != 2) = false := by simp [h1]
  have d2 : (m.term != r.hard.term) = false := by simp [h2]
  have hR : M.appended r m = ({ r with next := r.next.set fr (max (r.mtch.getD fr 0 + 1) (min (r.next.getD fr 0 - 1) (m.index + 1))) }, M.answer (M.entries { r with next := r.next.set fr (max (r.mtch.getD fr 0 + 1) (min (r.next.getD fr 0 - 1) (m.index + 1))) } fr)) := by
    unfold M.appended
    rw [if_neg (by rintro (h | h | h)
                   · exact h h1
                   · exact h h2
                   · rw [h3] at h; cases h.1)]
    simp only [h3, if_true, hfr, Int.toNat_natCast]
  generalize hX : max (r.mtch.getD fr 0 + 1) (min (r.next.getD fr 0 - 1) (m.index + 1)) = X at hR
  have hX1 : 1 ≤ X := by omega
  have hX2 : X ≤ r.log.length + 1 := by omega
  have HR := Lib.hid hR
  have HX := Lib.hid hX
  clear h h1 h2 hfr hR hX
  generalize r.mtch.getD fr 0 = mt at *
  generalize r.next.getD fr 0 = nx at *
  go_enter Try.func50, Try.ntmps50
  go_wp2_with fail
  go_quiet (fail)
  go_wp2_with fail
  rw [HF.out]
  go_region
  all_goals go_upto_region 6 with fail
  all_goals
    generalize hY : (if m.index + 1 < nx - 1 then m.index + 1 else nx - 1) = Y
    generalize hX' : (if mt + 1 < Y then Y else mt + 1) = X'
    have hif : X' = X := by
      rw [← hX', ← hY, ← HX.out]
      split <;> split <;> omega
    clear hX' hY
    subst X'
    refine wp_world (fun W => QOk W b { r with next := r.next.set fr X } A cap gv gn gm ∧ Fr (QS b A gv gn gm) w W ∧ w.heap.size + 1 < W.heap.size ∧
        W.heap[w.heap.size + 1]? = some (.cells #[.bool false, .int .i64 0, .int .i64 0, .int .i64 0, .slice none 0 0, .slice none 0 0] 45)) ⟨⟨?_, HH.out.wf.next fr hX1 hX2⟩, ?_, ?_, ?_⟩ ?_
    · exact QB.putNext (((HH.out.alloc _).alloc _).below (below_drewN (Below.refl _ _) _) (Nat.le_refl _)).toQB fr X
    · exact (((((Fr.refl _ w).alloc _).alloc _).trans (Fr.of_below (below_drewN (Below.refl _ _) _)))).setCell (p := ⟨gn, fr, none⟩) (.inl (.inr (.inr (.inr (.inl rfl))))) _
    · simp
    · exact (other_blk (by show w.heap.size + 1 ≠ gn; omega)).trans (heap_alloc2_new w _ _)
    rintro W ⟨hRW, hFW, hsW, hzW⟩
    clear c0 c1 c2 c3 c4 c5 c6 c7 c8 v9 v12 f9
    have hbW := hRW.lt
    have HFW := Lib.hid hFW
    have HZW := Lib.hid hzW
    have HNX := Lib.hid (hRW.wf.nexts HRL.out fr hfr3)
    generalize hr1 : ({ r with next := r.next.set fr X } : Rep) = r1 at hRW HR HNX
    clear hr1
    have HRW := Lib.hid hRW
    clear hFW hzW hRW HX
    go_wp2_with fail
    refine (qentries_calls HRW.out fr hfr3 HNX.out.1 HNX.out.2).mono ?_
    rintro e w2 ⟨ev, rfl, ho2, hb2⟩
    obtain ⟨eA, ec, rfl⟩ := own_form ho2
    have hs2 := hb2.size
    have hbs : w.heap.size ≤ w2.heap.size := by omega
    have HOK := Lib.hid (outOk_answer (w := w2) (base := w.heap.size) (M.entries r1 fr) (.slice eA (M.entries r1 fr).recs.length ec) hbs (own_mono ho2 (by omega)))
    have HB2 := Lib.hid hb2
    have HZ : Hid ((w2.alloc (.cells (msgCells (M.entries r1 fr) (.slice eA (M.entries r1 fr).recs.length ec)).toArray 37)).heap[w.heap.size + 1]? = _) := (Below.heap_alloc _ _ _ (by omega)).trans ((hb2.block _ hsW).trans HZW.out)
    clear ho2 hb2
    unfold msgVal msgCells
    go_wp2_with (refine wpList_store_list rfl 45 (.tmp 4) (.tmp 73) rfl (w.heap.size + 1) _ rfl rfl 45 _ HZ.out 6 size45 rfl rfl rfl ?_)
    refine bodyPost_ret (v := _) (results_cell_row rfl _ _ (w.heap.size + 1) 45 _ (0, 0) _ rfl (setRow_heap _ _ _ _ _ _ HZ.out) Try.underlying45 rfl size45) rfl ?_
    rw [HR.out]
    exact afterq_setRow ((HRW.out.below HB2.out (Nat.le_refl _)).alloc _) (fun k hk => .inl hk) HOK.out ((HFW.out.trans (Fr.of_below HB2.out)).alloc _) ⟨_, _, HZ.out⟩ (by omega) _

theorem qterm_q (h : QOk w b r A cap gv gn gm) (n : Int) (h0 : 0 ≤ n) (hn : n ≤ r.log.length) (k : Nat) :
    Calls Try.prog 53 #[.pointer (some ⟨b, 0, none⟩), .int .i64 n] (w.drewN k) fun e w' => e = .returned (.int .i64 (M.tm r.log n)) ∧ w' = w.drewN k :=
  (qterm_calls (h.drewN k) n h0 hn).mono fun _ _ ⟨h1, h2⟩ => ⟨h1, h2.symm⟩

set_option maxRecDepth 10000 in
set_option maxHeartbeats 1600000 in
theorem qappended_calls_ack (h : QOk w b r A cap gv gn gm) (m : Msg) (n : Nat) (mA : Option Addr) (mc : Nat) (h1 : r.role = 2) (h2 : m.term = r.hard.term) (h3 : m.yes = true) (hf0 : 0 ≤ m.fr) (hf2 : m.fr ≤ 2) (hi0 : 0 ≤ m.index) (hi4 : m.index ≤ r.log.length) :
    Calls Try.prog 50 #[.pointer (some ⟨b, 0, none⟩), msgVal m (.slice mA n mc)] w (AfterQ w b A gv gn gm (M.appended r m).1 (M.appended r m).2) := by
  unfold msgVal msgCells
  have hb := h.lt
  obtain ⟨c0, c1, c2, c3, c4, c5, c6, c7, c8⟩ := h.cells
  obtain ⟨fr, hfr⟩ := Int.eq_ofNat_of_zero_le hf0
  have hfr3 : fr < 3 := by omega
  have hfrI : (fr : Int) < 3 := by omega
  have v12 := h.mtch fr hfr3
  have f12 := h.freem fr
  have hgm := lt_blk h.mo
  have hgn := lt_blk h.no
  have hlen := h.wf.len
  have hmt := h.wf.mtchs h1 fr hfr3
  have HH := Lib.hid h
  have HF := Lib.hid hfr
  have HRL := Lib.hid h1
  have d1 : (r.role != 2) = false := by simp [h1]
  have d2 : (m.term != r.hard.term) = false := by simp [h2]
  have hR : M.appended r m = if max (r.mtch.getD fr 0) m.index + 1 ≤ (r.log.length : Int) then (M.advance { r with mtch := r.mtch.set fr (max (r.mtch.getD fr 0) m.index), next := r.next.set fr (max (r.mtch.getD fr 0) m.index + 1) }, M.answer (M.entries (M.advance { r with mtch := r.mtch.set fr (max (r.mtch.getD fr 0) m.index), next := r.next.set fr (max (r.mtch.getD fr 0) m.index + 1) }) fr)) else (M.advance { r with mtch := r.mtch.set fr (max (r.mtch.getD fr 0) m.index), next := r.next.set fr (max (r.mtch.getD fr 0) m.index + 1) }, M.noOut) := by
    unfold M.appended
    rw [if_neg (by rintro (h | h | h)
                   · exact h h1
                   · exact h h2
                   · omega)]
    simp only [h3, hfr, Int.toNat_natCast, (advance_log _).1]
    rfl
  generalize hX : max (r.mtch.getD fr 0) m.index = X at hR
  have hX1 : 0 ≤ X := by omega
  have hX2 : X ≤ r.log.length := by omega
  have d4 : decide ((r.log.length : Int) < m.index) = false := by simpa using hi4
  have HR := Lib.hid hR
  have HX := Lib.hid hX
  clear h h1 h2 hfr hR hX
  generalize r.mtch.getD fr 0 = mt at *
  go_enter Try.func50, Try.ntmps50
  go_wp2_with fail
  go_quiet (fail)
  go_wp2_with fail
  rw [HF.out]
  go_region
  all_goals
    go_upto_region 8 with fail
    generalize hX' : (if mt < m.index then m.index else mt) = X'
    have hif : X' = X := by
      rw [← hX', ← HX.out]
      split <;> omega
    clear hX'
    subst X'
    refine wp_world (fun W => QB W b { r with mtch := r.mtch.set fr X } A cap gv gn gm ∧ Fr (QS b A gv gn gm) w W ∧ w.heap.size + 1 < W.heap.size ∧
      W.heap[w.heap.size + 1]? = some (.cells #[.bool false, .int .i64 0, .int .i64 0, .int .i64 0, .slice none 0 0, .slice none 0 0] 45)) ⟨?_, ?_, ?_, ?_⟩ ?_
    · exact QB.putMtch (((HH.out.alloc _).alloc _).below (below_drewN (Below.refl _ _) _) (Nat.le_refl _)).toQB fr X
    · exact ((((Fr.refl _ w).alloc _).alloc _).trans (Fr.of_below (below_drewN (Below.refl _ _) _))).setCell (p := ⟨gm, fr, none⟩) (.inl (.inr (.inr (.inr (.inr rfl))))) _
    · simp
    · exact (other_blk (by show w.heap.size + 1 ≠ gm; omega)).trans (heap_alloc2_new w _ _)
    rintro W0 ⟨hRW, hFW, hsW, hzW⟩
    clear c0 c1 c2 c3 c4 c5 c6 c7 c8 v12 f12
    have v12 := hRW.mtch fr hfr3
    have hnx : ((r.mtch.set fr X).getD fr 0) = X := by
      rw [List.getD_eq_getElem?_getD, List.getElem?_set, if_pos rfl, if_pos (by rw [HH.out.mN]; exact hfr3)]; rfl
    change W0.cell? _ = some (.int .i64 ((r.mtch.set fr X).getD fr 0)) at v12
    rw [hnx] at v12
    have f9 := hRW.freen fr
    have v9 := hRW.next fr hfr3
    obtain ⟨_, _, _, _, _, _, _, c7, c8⟩ := hRW.cells
    have hbW := hRW.lt
    have hgnW := lt_blk hRW.no
    have HFW := Lib.hid hFW
    have HZW := Lib.hid hzW
    have HRW := Lib.hid hRW
    clear hnx hFW hzW hRW
    go_region
    go_upto_region 9 with fail
    refine wp_world (fun W => QOk W b { r with mtch := r.mtch.set fr X, next := r.next.set fr (X + 1) } A cap gv gn gm ∧ Fr (QS b A gv gn gm) w W ∧ w.heap.size + 1 < W.heap.size ∧
      W.heap[w.heap.size + 1]? = some (.cells #[.bool false, .int .i64 0, .int .i64 0, .int .i64 0, .slice none 0 0, .slice none 0 0] 45)) ⟨⟨?_, (HH.out.wf.mtch fr hX1 hX2).next fr (by omega) (by show X + 1 ≤ (r.log.length : Int) + 1; omega)⟩, ?_, ?_, ?_⟩ ?_
    · exact (QB.putNext HRW.out fr (X + 1)).drew
    · exact (HFW.out.setCell (p := ⟨gn, fr, none⟩) (.inl (.inr (.inr (.inr (.inl rfl))))) _).drew
    · simp; omega
    · exact (other_blk (by show w.heap.size + 1 ≠ gn; omega)).trans HZW.out
    clear v9 v12 f9 HFW HZW HRW hsW hbW c7 c8
    rintro W ⟨hRW, hFW, hsW, hzW⟩
    have hnx : ((r.next.set fr (X + 1)).getD fr 0) = X + 1 := by
      rw [List.getD_eq_getElem?_getD, List.getElem?_set, if_pos rfl, if_pos (by rw [HH.out.nN]; exact hfr3)]; rfl
    have hl0 : ({ r with mtch := r.mtch.set fr X, next := r.next.set fr (X + 1) } : Rep).log = r.log := rfl
    have hx0 : ({ r with mtch := r.mtch.set fr X, next := r.next.set fr (X + 1) } : Rep).next.getD fr 0 = X + 1 := hnx
    have hq0 : ({ r with mtch := r.mtch.set fr X, next := r.next.set fr (X + 1) } : Rep).role = 2 := HRL.out
    generalize ({ r with mtch := r.mtch.set fr X, next := r.next.set fr (X + 1) } : Rep) = r0 at hRW HR hl0 hx0 hq0
    rw [← hl0] at HR hlen hX2 hi4
    have HL0 := Lib.hid hl0
    have HX0 := Lib.hid hx0
    have HQ0 := Lib.hid hq0
    have hM := hRW.wf.mtchs hq0
    obtain ⟨id, hid⟩ := Int.eq_ofNat_of_zero_le hRW.wf.id0
    have hid3 : id < 3 := by have := hRW.wf.id2; omega
    have HMO := Lib.hid (mostOf_two hid hid3 hM)
    have HE := Lib.hid (cmTo_end hRW.wf hM)
    have hmo0 := (mostOf_bd r0 hM 2 (Nat.le_refl _))
    rw [List.take_of_length_le (by rw [others_len]; omega)] at hmo0
    generalize mostOf r0 (M.others r0.id) = most at HMO HE hmo0
    have HID := Lib.hid hid
    have HWF := Lib.hid hRW.wf
    have hc0 := hRW.wf.commit0
    have hcN := hRW.wf.commitN
    have c5 := hRW.cells.2.2.2.2.2.1
    have hbW := hRW.lt
    have HFW := Lib.hid hFW
    have HZW := Lib.hid hzW
    have HRW := Lib.hid hRW
    clear hFW hzW hRW HX hnx hl0 hx0 hq0 hM hid
    go_wp2_with fail
    clear c5 hbW
    go_loopw [6] (fun i wr => ∃ j : Nat, j ≤ r0.log.length - r0.commit.toNat ∧ i = .int .i64 (r0.commit + 1 + j) ∧ QOk wr b { r0 with commit := cmTo r0 most j } A cap gv gn gm ∧ Fr (QS b A gv gn gm) w wr ∧ w.heap.size + 1 < wr.heap.size ∧
      wr.heap[w.heap.size + 1]? = some (.cells #[.bool false, .int .i64 0, .int .i64 0, .int .i64 0, .slice none 0 0, .slice none 0 0] 45)) (fun i _ => 4002 - (intOf i).toNat)
    case atStart => exact ⟨0, by omega, by go_num, HRW.out, HFW.out, hsW, HZW.out⟩
    case round =>
      clear HRW HFW HZW
      obtain ⟨j, hj, rfl, hRr, hFr, hsr, hZr⟩ := hrel
      have hcb := cmTo_bd r0 most j
      obtain ⟨N, hN⟩ : ∃ N : Int, r0.commit + 1 + j = N := ⟨_, rfl⟩
      rw [hN]
      have hN1 : 1 ≤ N := by omega
      have hbr := hRr.lt
      obtain ⟨x0, x1, x2, x3, x4, x5, x6, x7, x8⟩ := hRr.cells
      have f5 := hRr.free 5
      by_cases hlt : j < r0.log.length - r0.commit.toNat
      · have hN2 : N ≤ r0.log.length := by omega
        have hq : ∃ q1 q2 : Bool, Hid ((q1 = true ∧ q2 = true) ↔ (M.tm r0.log (r0.commit + j + 1) = r0.hard.term ∧ r0.commit + j + 1 ≤ most)) ∧ (M.tm r0.log N == r0.hard.term) = q1 ∧ decide (N ≤ if r0.mtch.getD ((id + 1) % 3) 0 < r0.mtch.getD ((id + 2) % 3) 0 then r0.mtch.getD ((id + 2) % 3) 0 else r0.mtch.getD ((id + 1) % 3) 0) = q2 := by
          refine ⟨_, _, ?_, rfl, rfl⟩
          show (_ ∧ _) ↔ _
          have e : r0.commit + j + 1 = N := by omega
          have hm := HMO.out
          rw [e, beq_iff_eq, decide_eq_true_iff, hm]
          have : max (r0.mtch.getD ((id + 1) % 3) 0) (r0.mtch.getD ((id + 2) % 3) 0) = (if r0.mtch.getD ((id + 1) % 3) 0 < r0.mtch.getD ((id + 2) % 3) 0 then r0.mtch.getD ((id + 2) % 3) 0 else r0.mtch.getD ((id + 1) % 3) 0) := by split <;> omega
          rw [this]
        obtain ⟨q1, q2, HQ, hq1, hq2⟩ := hq
        have y1 := hRr.mtch ((id + 1) % 3) (Nat.mod_lt _ (by omega))
        have y2 := hRr.mtch ((id + 2) % 3) (Nat.mod_lt _ (by omega))
        change wr.cell? _ = some (.int .i64 (r0.mtch.getD ((id + 1) % 3) 0)) at y1
        change wr.cell? _ = some (.int .i64 (r0.mtch.getD ((id + 2) % 3) 0)) at y2
        generalize r0.mtch.getD ((id + 1) % 3) 0 = ma at *
        generalize r0.mtch.getD ((id + 2) % 3) 0 = mb at *
        change wr.cell? ⟨b, 0, none⟩ = some (.int .i64 r0.id) at x0
        rw [HID.out] at x0
        have hgm := lt_blk hRr.mo
        have hn0 : (0 : Int) ≤ N := by omega
        have HN := Lib.hid hN
        have HRr := Lib.hid hRr
        have HFr := Lib.hid hFr
        have HZr := Lib.hid hZr
        have HCB := Lib.hid hcb
        clear hN hRr hFr hZr hcb
        have hi3 : id = 0 ∨ id = 1 ∨ id = 2 := by omega
        rcases hi3 with rfl | rfl | rfl
        all_goals cases q1
        all_goals try cases q2
        all_goals go_upto_region 12 with fail
        all_goals go_quiet ((go_at_call 53; exact Calls.quiet_of_same (qterm_q HRr.out N hn0 hN2 _)))
        all_goals go_wp2_with fail
        all_goals
          have hst : cmTo r0 most (j + 1) = if M.tm r0.log (r0.commit + j + 1) = r0.hard.term ∧ r0.commit + j + 1 ≤ most then r0.commit + j + 1 else cmTo r0 most j := rfl
          go_roundw
          case rel =>
            refine ⟨j + 1, by omega, by have := HN.out; go_num, ?_, ?_, ?_, ?_⟩
            · rw [hst]
              have hcb := HCB.out
              have hNo := HN.out
              first
                | (rw [if_neg (fun e => by have := HQ.out.2 e; simp at this)]
                   exact HRr.out.drewN _)
                | (rw [if_pos (HQ.out.1 ⟨rfl, rfl⟩), show r0.commit + j + 1 = N by omega]
                   exact ⟨(HRr.out.drewN _).toQB.putCommit N, HWF.out.commit (by omega) hN2⟩)
            · first
                | exact HFr.out.drewNs _
                | exact (HFr.out.drewNs _).setCell (p := ⟨b, 5, none⟩) (.inl (.inl rfl)) _
            · first | exact hsr | (simp only [World.size_setCell]; exact hsr)
            · first
                | exact HZr.out
                | exact (other_blk (by show w.heap.size + 1 ≠ b; omega)).trans HZr.out
          case measure => have := HN.out; simp [intOf]; omega
      · obtain rfl : j = r0.log.length - r0.commit.toNat := by omega
        have hN2 : N = r0.log.length + 1 := by omega
        have hE := HE.out
        rw [hE] at hRr
        obtain ⟨hl1, hl2, hl3⟩ := advance_log r0
        have v9 := hRr.next fr hfr3
        rw [hl2, HX0.out] at v9
        have hx3 := hRr.cells.2.2.2.1
        have hx7 := hRr.cells.2.2.2.2.2.2.2.1
        rw [hl1] at hx3
        have hgnr := lt_blk hRr.no
        have HNX := Lib.hid (hRr.wf.nexts (by rw [hl3]; exact HQ0.out) fr hfr3)
        generalize hr1 : M.advance r0 = r1 at hRr HR HNX
        clear hr1 hl1 hl2 hl3 hE hN hcb x0 x1 x2 x3 x4 x5 x6 x7 x8 f5 HE HMO
        have HRr := Lib.hid hRr
        have HFr := Lib.hid hFr
        have HZr := Lib.hid hZr
        clear hRr hFr hZr
        go_upto_region 14 with fail
        by_cases hlt2 : X + 1 ≤ (r0.log.length : Int)
        · have hR := HR.out
          rw [if_pos hlt2] at hR
          have HR2 := Lib.hid hR
          clear hR HR
          go_quiet (fail)
          go_wp2_with fail
          refine calls_world (fun W => QOk W b r1 A cap gv gn gm ∧ Fr (QS b A gv gn gm) w W ∧ W.heap.size = wr.heap.size ∧ W.heap[w.heap.size + 1]? = some (.cells #[.bool false, .int .i64 0, .int .i64 0, .int .i64 0, .slice none 0 0, .slice none 0 0] 45))
            ⟨HRr.out.drewN _, HFr.out.drewNs _, rfl, HZr.out⟩ ?_
          clear HFr HZr HRr v9 hx3 hx7
          rintro U ⟨hRU, hFU, hsU, hzU⟩
          have HFU := Lib.hid hFU
          have HZU := Lib.hid hzU
          have HRU := Lib.hid hRU
          clear hFU hzU hRU
          refine (qentries_calls HRU.out fr hfr3 HNX.out.1 HNX.out.2).mono ?_
          rintro e w2 ⟨ev, rfl, ho2, hb2⟩
          obtain ⟨eA, ec, rfl⟩ := own_form ho2
          have hs2 := hb2.size
          have hbs : w.heap.size ≤ w2.heap.size := by omega
          have HOK := Lib.hid (outOk_answer (w := w2) (base := w.heap.size) (M.entries r1 fr) (.slice eA (M.entries r1 fr).recs.length ec) hbs (own_mono ho2 (by omega)))
          have HB2 := Lib.hid hb2
          have HZ : Hid ((w2.alloc (.cells (msgCells (M.entries r1 fr) (.slice eA (M.entries r1 fr).recs.length ec)).toArray 37)).heap[w.heap.size + 1]? = _) := (Below.heap_alloc _ _ _ (by omega)).trans ((hb2.block _ (by omega)).trans HZU.out)
          clear ho2 hb2
          unfold msgVal msgCells
          go_wp2_with (refine wpList_store_list rfl 45 (.tmp 4) (.tmp 177) rfl (w.heap.size + 1) _ rfl rfl 45 _ HZ.out 6 size45 rfl rfl rfl ?_)
          refine bodyPost_ret (v := _) (results_cell_row rfl _ _ (w.heap.size + 1) 45 _ (0, 0) _ rfl (setRow_heap _ _ _ _ _ _ HZ.out) Try.underlying45 rfl size45) rfl ?_
          rw [HR2.out]
          exact afterq_setRow ((HRU.out.below HB2.out (Nat.le_refl _)).alloc _) (fun k hk => .inl hk) HOK.out ((HFU.out.trans (Fr.of_below HB2.out)).alloc _) ⟨_, _, HZ.out⟩ (by omega) _
        · have hR := HR.out
          rw [if_neg hlt2] at hR
          have HR2 := Lib.hid hR
          clear hR HR
          go_quiet (fail)
          go_upto_region 16 with fail
          refine wp_world (fun W => QOk W b r1 A cap gv gn gm ∧ Fr (QS b A gv gn gm) w W ∧ W.heap[w.heap.size + 1]? = some (.cells #[.bool false, .int .i64 0, .int .i64 0, .int .i64 0, .slice none 0 0, .slice none 0 0] 45))
            ⟨HRr.out.drewN _, HFr.out.drewNs _, HZr.out⟩ ?_
          clear HFr HZr HRr v9 hx3 hx7
          rintro U ⟨hRU, hFU, hzU⟩
          have HFU := Lib.hid hFU
          have HZU := Lib.hid hzU
          have HRU := Lib.hid hRU
          clear hFU hzU hRU
          go_wp2_with (refine wpList_store_list rfl 45 (.tmp 4) (.tmp 178) rfl (w.heap.size + 1) _ rfl rfl 45 _ HZU.out 6 size45 rfl rfl rfl ?_)
          refine bodyPost_ret (v := _) (results_cell_row rfl _ _ (w.heap.size + 1) 45 _ (0, 0) _ rfl (setRow_heap _ _ _ _ _ _ HZU.out) Try.underlying45 rfl size45) rfl ?_
          rw [HR2.out]
          exact afterq_setRow (o := M.noOut) (rv := .slice none 0 0) (sv := .slice none 0 0) HRU.out (fun k hk => .inl hk) (OutOk.nil _ _) HFU.out ⟨_, _, HZU.out⟩ (by omega) _

theorem qappended_calls (h : QOk w b r A cap gv gn gm) (m : Msg) (n : Nat) (mA : Option Addr) (mc : Nat) (hf0 : 0 ≤ m.fr) (hf2 : m.fr ≤ 2) (hi0 : 0 ≤ m.index) (hi4 : m.index ≤ 4000) :
    Calls Try.prog 50 #[.pointer (some ⟨b, 0, none⟩), msgVal m (.slice mA n mc)] w (AfterQ w b A gv gn gm (M.appended r m).1 (M.appended r m).2) := by
  by_cases hno : r.role ≠ 2 ∨ m.term ≠ r.hard.term ∨ (m.yes = true ∧ (r.log.length : Int) < m.index)
  · exact qappended_calls_no h m n mA mc hno
  · have h1 : r.role = 2 := Decidable.byContradiction fun h1 => hno (.inl h1)
    have h2 : m.term = r.hard.term := Decidable.byContradiction fun h1 => hno (.inr (.inl h1))
    cases hy : m.yes with
    | false => exact qappended_calls_nack h m n mA mc h1 h2 hy hf0 hf2 hi0 hi4
    | true => exact qappended_calls_ack h m n mA mc h1 h2 hy hf0 hf2 hi0 (by
        rcases Int.lt_or_le (r.log.length : Int) m.index with q | q
        · exact absurd (.inr (.inr ⟨hy, q⟩)) hno
        · exact q)
end
end Go.Proofs.Ytodmihpmbecncaa
