/-
  The walk of replica.append: it computes what the model says.
-/
import Derived.Test.YtodmihpmbecncaaWkJ
import Derived.Test.YtodmihpmbecncaaPa
namespace Go.Proofs.Ytodmihpmbecncaa
open Go.RowKit

section
variable {w : World} {b : Nat} {r : Rep} {A : Option Addr} {cap : Nat}

theorem M.WF.role0' {r : Rep} (h : M.WF r) : M.WF { r with role := 0 } :=
  { h with
    role0 := Int.le_refl _
    role2 := by show (0 : Int) ≤ 2; omega
    nexts := fun (e : (0 : Int) = 2) => absurd e (by decide)
    mtchs := fun (e : (0 : Int) = 2) => absurd e (by decide) }

set_option maxRecDepth 4000 in
set_option maxHeartbeats 1600000 in
theorem append_calls_old (h : RepOk w b r A cap) (m : Msg) (n : Nat) (mA : Option Addr) (mc : Nat) (hlt : m.term < r.hard.term) :
    Calls Try.prog 44 #[.pointer (some ⟨b, 0, none⟩), msgVal m (.slice mA n mc)] w (After w b A (M.append r m).1 (M.append r m).2) := by
  have hR : M.append r m = (r, M.answer (M.message r 3 m.fr)) := by
    unfold M.append
    rw [if_pos hlt]
  have HR := Lib.hid hR
  clear hR
  unfold msgVal msgCells
  have hb := h.lt
  have HH := Lib.hid h
  have d1 : decide (m.term < r.hard.term) = true := by simpa using hlt
  clear h
  go_enter Try.func44, Try.ntmps44
  go_wp2_with fail
  refine (message_calls ((HH.out.alloc _).alloc _) 3 m.fr).mono ?_
  rintro e w1 ⟨rfl, hb1⟩
  have h1 := ((HH.out.alloc _).alloc _).below hb1 (Nat.le_refl _)
  have hb1w : w.heap.size + 2 ≤ w1.heap.size := by have := hb1.size; simp at this; omega
  have hw0 : w.heap.size < w1.heap.size := by omega
  have hw1 : w.heap.size + 1 < w1.heap.size := by omega
  have HB1 := Lib.hid hb1
  have H1 := Lib.hid h1
  obtain ⟨c0, c1, c2, c3, _⟩ := h1.cells
  have hm1 : w1.heap[w.heap.size]? = some (.cells (msgCells m (.slice mA n mc)).toArray 37) := (hb1.block _ (by simp; omega)).trans ((Below.heap_alloc _ _ _ (by simp)).trans (heap_alloc_new w _))
  have hz1 : w1.heap[w.heap.size + 1]? = some (.cells #[.bool false, .int .i64 0, .int .i64 0, .int .i64 0, .slice none 0 0, .slice none 0 0] 45) := (hb1.block _ (by simp)).trans (heap_alloc2_new w _ _)
  have m3 := cell_blk hm1 3
  simp only [msgCells, List.getElem?_cons_succ, List.getElem?_cons_zero] at m3
  have HZ1 := Lib.hid hz1
  have hbw1 := h1.lt
  clear h1 hb1 hm1 hz1
  go_wp2_with fail
  go_quiet (fail)
  go_wp2_with fail
  have hb9 := (HB1.out.alloc (Nat.le_trans (by simp) hb1w) (.cells (msgCells (M.message r 3 m.fr) (.slice none 0 0)).toArray 37))
  show Calls Try.prog 58 #[msgVal (M.message r 3 m.fr) (.slice none 0 0)] _ _
  refine calls_world (fun W => RepOk W b r A cap ∧ Fr (RepS b A) w W ∧ W.heap[w.heap.size + 1]? = some (.cells #[.bool false, .int .i64 0, .int .i64 0, .int .i64 0, .slice none 0 0, .slice none 0 0] 45))
    ⟨((HH.out.alloc _).alloc _).below (below_drewN hb9 _) (Nat.le_refl _), (((Fr.refl _ w).alloc _).alloc _).trans (Fr.of_below (below_drewN hb9 _)), (Below.heap_alloc _ _ _ hw1).trans HZ1.out⟩ ?_
  clear hb9
  rintro W ⟨hR, hF, hZ⟩
  refine (answer_calls (M.message r 3 m.fr) (.slice none 0 0) W w.heap.size hF.size (World.ownsRow_nil _ _ _ _)).mono ?_
  rintro e w3 ⟨rv, sv, rfl, hok, hb3⟩
  obtain ⟨rA, rc, rfl⟩ := own_form hok.recs
  obtain ⟨sA, sc, rfl⟩ := msgs_form hok.send
  have HRW := Lib.hid hR
  have HF := Lib.hid hF
  have HZ := Lib.hid ((hb3.block _ (lt_blk hZ)).trans hZ)
  have HOK := Lib.hid hok
  have HB3 := Lib.hid hb3
  clear hR hF hZ hok hb3
  unfold outVal
  go_wp2_with (refine wpList_store_list rfl 45 (.tmp 4) (.tmp 23) rfl (w.heap.size + 1) _ rfl rfl 45 _ HZ.out 6 size45 rfl rfl rfl ?_)
  refine bodyPost_ret (v := _) (results_cell_row rfl _ _ (w.heap.size + 1) 45 _ (0, 0) _ rfl (setRow_heap _ _ _ _ _ _ HZ.out) Try.underlying45 rfl size45) rfl ?_
  rw [HR.out]
  exact after_setRow (HRW.out.below HB3.out (Nat.le_refl _)) (.inl rfl) HOK.out (HF.out.trans (Fr.of_below HB3.out)) ⟨_, _, HZ.out⟩ (by omega) _

set_option maxRecDepth 4000 in
set_option maxHeartbeats 1600000 in
theorem append_calls_lead (h : RepOk w b r A cap) (m : Msg) (n : Nat) (mA : Option Addr) (mc : Nat) (hlt : ¬ m.term < r.hard.term) (h2 : r.role = 2) :
    Calls Try.prog 44 #[.pointer (some ⟨b, 0, none⟩), msgVal m (.slice mA n mc)] w (After w b A (M.append r m).1 (M.append r m).2) := by
  have hR : M.append r m = (r, M.noOut) := by
    unfold M.append
    rw [if_neg hlt, if_pos h2]
  have HR := Lib.hid hR
  clear hR
  unfold msgVal msgCells
  have hb := h.lt
  have HH := Lib.hid h
  have d1 : decide (m.term < r.hard.term) = false := by simpa using hlt
  clear h
  go_enter Try.func44, Try.ntmps44
  go_wp2_with fail
  refine (message_calls ((HH.out.alloc _).alloc _) 3 m.fr).mono ?_
  rintro e w1 ⟨rfl, hb1⟩
  have h1 := ((HH.out.alloc _).alloc _).below hb1 (Nat.le_refl _)
  have hb1w : w.heap.size + 2 ≤ w1.heap.size := by have := hb1.size; simp at this; omega
  have hw0 : w.heap.size < w1.heap.size := by omega
  have hw1 : w.heap.size + 1 < w1.heap.size := by omega
  have HB1 := Lib.hid hb1
  have H1 := Lib.hid h1
  obtain ⟨c0, c1, c2, c3, c4, _⟩ := h1.cells
  rw [h2] at c4
  have hm1 : w1.heap[w.heap.size]? = some (.cells (msgCells m (.slice mA n mc)).toArray 37) := (hb1.block _ (by simp; omega)).trans ((Below.heap_alloc _ _ _ (by simp)).trans (heap_alloc_new w _))
  have hz1 : w1.heap[w.heap.size + 1]? = some (.cells #[.bool false, .int .i64 0, .int .i64 0, .int .i64 0, .slice none 0 0, .slice none 0 0] 45) := (hb1.block _ (by simp)).trans (heap_alloc2_new w _ _)
  have m3 := cell_blk hm1 3
  simp only [msgCells, List.getElem?_cons_succ, List.getElem?_cons_zero] at m3
  have HZ1 := Lib.hid hz1
  have hbw1 := h1.lt
  clear h1 hb1 hm1 hz1 h2
  go_wp2_with fail
  go_quiet (fail)
  go_upto_region 5 with fail
  have hb9 := (HB1.out.alloc (Nat.le_trans (by simp) hb1w) (.cells (msgCells (M.message r 3 m.fr) (.slice none 0 0)).toArray 37))
  refine wp_world (fun W => RepOk W b r A cap ∧ Fr (RepS b A) w W ∧ W.heap[w.heap.size + 1]? = some (.cells #[.bool false, .int .i64 0, .int .i64 0, .int .i64 0, .slice none 0 0, .slice none 0 0] 45))
    ⟨((HH.out.alloc _).alloc _).below (below_drewN hb9 _) (Nat.le_refl _), (((Fr.refl _ w).alloc _).alloc _).trans (Fr.of_below (below_drewN hb9 _)), (Below.heap_alloc _ _ _ hw1).trans HZ1.out⟩ ?_
  clear hb9
  rintro W ⟨hR, hF, hZ⟩
  have HRW := Lib.hid hR
  have HF := Lib.hid hF
  have HZ := Lib.hid hZ
  clear hR hF hZ
  go_wp2_with (refine wpList_store_list rfl 45 (.tmp 4) (.tmp 29) rfl (w.heap.size + 1) _ rfl rfl 45 _ HZ.out 6 size45 rfl rfl rfl ?_)
  refine bodyPost_ret (v := _) (results_cell_row rfl _ _ (w.heap.size + 1) 45 _ (0, 0) _ rfl (setRow_heap _ _ _ _ _ _ HZ.out) Try.underlying45 rfl size45) rfl ?_
  rw [HR.out]
  exact after_setRow (o := M.noOut) (rv := .slice none 0 0) (sv := .slice none 0 0) HRW.out (.inl rfl) (OutOk.nil _ _) HF.out ⟨_, _, HZ.out⟩ (by omega) _

set_option maxRecDepth 4000 in
set_option maxHeartbeats 1600000 in
theorem append_calls_miss (h : RepOk w b r A cap) (m : Msg) (n : Nat) (mA : Option Addr) (mc : Nat) (hlt : ¬ m.term < r.hard.term) (h2 : r.role ≠ 2) (hi0 : 0 ≤ m.index) (hi4 : m.index ≤ 4000)
    (hp : (r.log.length : Int) < m.index ∨ M.tm r.log m.index ≠ m.prev) :
    Calls Try.prog 44 #[.pointer (some ⟨b, 0, none⟩), msgVal m (.slice mA n mc)] w (After w b A (M.append r m).1 (M.append r m).2) := by
  have hR : M.append r m = ({ r with role := 0 }, M.answer { M.message r 3 m.fr with index := min (r.log.length : Int) (m.index - 1) }) := by
    unfold M.append
    rw [if_neg hlt, if_neg h2, if_pos hp]
  have HR := Lib.hid hR
  clear hR
  unfold msgVal msgCells
  have hb := h.lt
  have hlen := h.wf.len
  have HH := Lib.hid h
  have d1 : decide (m.term < r.hard.term) = false := by simpa using hlt
  have d2 : (r.role == 2) = false := by simpa using h2
  have d3 : decide ((r.log.length : Int) < m.index) = true ∨ (decide ((r.log.length : Int) < m.index) = false ∧ m.index ≤ r.log.length ∧ (M.tm r.log m.index != m.prev) = true) := by
    by_cases q : (r.log.length : Int) < m.index
    · exact .inl (by simpa using q)
    · rcases hp with hp | hp
      · exact absurd hp q
      · exact .inr ⟨by simpa using q, by omega, by simpa using hp⟩
  clear h hp
  go_enter Try.func44, Try.ntmps44
  go_wp2_with fail
  refine (message_calls ((HH.out.alloc _).alloc _) 3 m.fr).mono ?_
  rintro e w1 ⟨rfl, hb1⟩
  have h1 := ((HH.out.alloc _).alloc _).below hb1 (Nat.le_refl _)
  have hb1w : w.heap.size + 2 ≤ w1.heap.size := by have := hb1.size; simp at this; omega
  have hw0 : w.heap.size < w1.heap.size := by omega
  have hw1 : w.heap.size + 1 < w1.heap.size := by omega
  have HB1 := Lib.hid hb1
  have H1 := Lib.hid h1
  obtain ⟨c0, c1, c2, c3, c4, _⟩ := h1.cells
  have f4 := h1.free 4
  have hm1 : w1.heap[w.heap.size]? = some (.cells (msgCells m (.slice mA n mc)).toArray 37) := (hb1.block _ (by simp; omega)).trans ((Below.heap_alloc _ _ _ (by simp)).trans (heap_alloc_new w _))
  have hz1 : w1.heap[w.heap.size + 1]? = some (.cells #[.bool false, .int .i64 0, .int .i64 0, .int .i64 0, .slice none 0 0, .slice none 0 0] 45) := (hb1.block _ (by simp)).trans (heap_alloc2_new w _ _)
  have m3 := cell_blk hm1 3
  simp only [msgCells, List.getElem?_cons_succ, List.getElem?_cons_zero] at m3
  have HM1 := Lib.hid hm1
  have HZ1 := Lib.hid hz1
  have hbw1 := h1.lt
  clear h1 hb1 hm1 hz1
  go_wp2_with fail
  go_quiet (fail)
  go_upto_region 7 with fail
  refine wp_world (fun W => RepOk W b { r with role := 0 } A cap ∧ Fr (RepS b A) w W ∧ W.heap[w.heap.size]? = some (.cells (msgCells m (.slice mA n mc)).toArray 37) ∧
     W.heap[w.heap.size + 1]? = some (.cells #[.bool false, .int .i64 0, .int .i64 0, .int .i64 0, .slice none 0 0, .slice none 0 0] 45) ∧
     W.heap[w1.heap.size]? = some (.cells (msgCells (M.message r 3 m.fr) (.slice none 0 0)).toArray 37))
    ⟨⟨?_, HH.out.wf.role0'⟩, ?_, ?_, ?_, ?_⟩ ?_
  · exact RepB.putRole (((HH.out.alloc _).alloc _).below (below_drewN (HB1.out.alloc (Nat.le_trans (by simp) hb1w) _) _) (Nat.le_refl _)).toRepB 0
  · exact ((((Fr.refl _ w).alloc _).alloc _).trans (Fr.of_below (below_drewN (HB1.out.alloc (Nat.le_trans (by simp) hb1w) _) _))).setCell (p := ⟨b, 4, none⟩) (.inl (.inl rfl)) _
  · exact (other_blk (by show w.heap.size ≠ b; omega)).trans ((Below.heap_alloc _ _ _ hw0).trans HM1.out)
  · exact (other_blk (by show w.heap.size + 1 ≠ b; omega)).trans ((Below.heap_alloc _ _ _ hw1).trans HZ1.out)
  · exact (other_blk (by show w1.heap.size ≠ b; omega)).trans (heap_alloc_new w1 _)
  rintro W ⟨hRW, hFW, hmW, hzW, haW⟩
  clear c0 c1 c2 c3 c4 f4 m3
  have hbW := hRW.lt
  have c3 := hRW.cells.2.2.2.1
  have m4 := cell_blk hmW 4
  have m5 := cell_blk hmW 5
  have a4 := cell_blk haW 4
  have g4 := free_blk haW 4
  simp only [msgCells, List.getElem?_cons_succ, List.getElem?_cons_zero, M.message] at m4 m5 a4
  have haL := lt_blk haW
  have hzL := lt_blk hzW
  have hmL := lt_blk hmW
  have HRW := Lib.hid hRW
  have HFW := Lib.hid hFW
  have HZW := Lib.hid hzW
  have HAW := Lib.hid haW
  have HMW := Lib.hid hmW
  clear hRW hFW hmW hzW haW HM1 HZ1
  rcases d3 with d3 | ⟨d3, d4, d5⟩
  · go_quiet (fail)
    go_upto_region 8 with fail
    refine wp_world (fun U => RepOk U b { r with role := 0 } A cap ∧ Fr (RepS b A) w U ∧ U.heap[w.heap.size + 1]? = some (.cells #[.bool false, .int .i64 0, .int .i64 0, .int .i64 0, .slice none 0 0, .slice none 0 0] 45) ∧
      U.heap[w1.heap.size]? = some (.cells (msgCells (M.message r 3 m.fr) (.slice none 0 0)).toArray 37) ∧ U.heap.size = W.heap.size ∧ U.heap[w.heap.size]? = W.heap[w.heap.size]?) ⟨HRW.out.drewN _, HFW.out.drewNs _, HZW.out, HAW.out, rfl, rfl⟩ ?_
    clear c3 m4 m5 a4 g4 HRW HFW HZW HAW
    rintro U ⟨hRU, hFU, hzU, haU, hsU, hmU⟩
    have c3 := hRU.cells.2.2.2.1
    have m4 := cell_blk (hmU.trans HMW.out) 4
    have a4 := cell_blk haU 4
    have g4 := free_blk haU 4
    simp only [msgCells, List.getElem?_cons_succ, List.getElem?_cons_zero, M.message] at m4 a4
    have hbU := hRU.lt
    have haL := lt_blk haU
    have hzL := lt_blk hzU
    have hmL : w.heap.size < U.heap.size := by omega
    have hlU := hRU.rowLt
    have HRU := Lib.hid hRU
    have HFU := Lib.hid hFU
    have HZU := Lib.hid hzU
    have HAU := Lib.hid haU
    clear hRU hFU hzU haU hmU
    go_region
    all_goals
      generalize hX : (if m.index - 1 < (r.log.length : Int) then m.index - 1 else (r.log.length : Int)) = X
      have hX2 : min (r.log.length : Int) (m.index - 1) = X := by
        rw [← hX]
        split <;> omega
      have hR := HR.out
      rw [hX2] at hR
      have HR2 := Lib.hid hR
      clear hR hX hX2
      go_upto_region 9 with fail
      refine wp_world (fun V => RepOk V b { r with role := 0 } A cap ∧ Fr (RepS b A) w V ∧ V.heap[w.heap.size + 1]? = some (.cells #[.bool false, .int .i64 0, .int .i64 0, .int .i64 0, .slice none 0 0, .slice none 0 0] 45) ∧
        V.heap[w1.heap.size]? = some (.cells (msgCells { M.message r 3 m.fr with index := X } (.slice none 0 0)).toArray 37))
        ⟨RepOk.far (HRU.out.drewN _) (a := ⟨w1.heap.size, 4, none⟩) (by show w1.heap.size ≠ b; omega) (fun ad e => by have := HH.out.rowLt ad e; show ad.block ≠ w1.heap.size; omega) _,
         (HFU.out.drewNs _).setCell (p := ⟨w1.heap.size, 4, none⟩) (.inr (by show w.heap.size ≤ w1.heap.size; omega)) _,
         (other_blk (by show w.heap.size + 1 ≠ w1.heap.size; omega)).trans HZU.out, set_blk HAU.out 4 _⟩ ?_
      clear c3 m4 a4 g4 HRU HFU HZU HAU
      rintro V ⟨hRV, hFV, hzV, haV⟩
      have x0 := cell_blk haV 0
      have x1 := cell_blk haV 1
      have x2 := cell_blk haV 2
      have x3 := cell_blk haV 3
      have x4 := cell_blk haV 4
      have x5 := cell_blk haV 5
      have x6 := cell_blk haV 6
      have x7 := cell_blk haV 7
      have x8 := cell_blk haV 8
      simp only [msgCells, List.getElem?_cons_succ, List.getElem?_cons_zero, M.message] at x0 x1 x2 x3 x4 x5 x6 x7 x8
      have haL := lt_blk haV
      have HRV := Lib.hid hRV
      have HFV := Lib.hid hFV
      have HZV := Lib.hid hzV
      clear hRV hFV hzV haV
      go_wp2_with fail
      show Calls Try.prog 58 #[msgVal { M.message r 3 m.fr with index := X } (.slice none 0 0)] _ _
      refine (answer_calls { M.message r 3 m.fr with index := X } (.slice none 0 0) V w.heap.size HFV.out.size (World.ownsRow_nil _ _ _ _)).mono ?_
      clear x0 x1 x2 x3 x4 x5 x6 x7 x8
      rintro e w3 ⟨rv, sv, rfl, hok, hb3⟩
      obtain ⟨rA, rc, rfl⟩ := own_form hok.recs
      obtain ⟨sA, sc, rfl⟩ := msgs_form hok.send
      have HZ := Lib.hid ((hb3.block _ (lt_blk HZV.out)).trans HZV.out)
      have HOK := Lib.hid hok
      have HB3 := Lib.hid hb3
      clear hok hb3
      unfold outVal
      go_wp2_with (refine wpList_store_list rfl 45 (.tmp 4) (.tmp 61) rfl (w.heap.size + 1) _ rfl rfl 45 _ HZ.out 6 size45 rfl rfl rfl ?_)
      refine bodyPost_ret (v := _) (results_cell_row rfl _ _ (w.heap.size + 1) 45 _ (0, 0) _ rfl (setRow_heap _ _ _ _ _ _ HZ.out) Try.underlying45 rfl size45) rfl ?_
      rw [HR2.out]
      exact after_setRow (HRV.out.below HB3.out (Nat.le_refl _)) (.inl rfl) HOK.out (HFV.out.trans (Fr.of_below HB3.out)) ⟨_, _, HZ.out⟩ (by omega) _
  · go_quiet ((go_at_call 36; exact Calls.quiet_of_same (term_q HRW.out m.index hi0 d4 _)))
    go_upto_region 8 with fail
    refine wp_world (fun U => RepOk U b { r with role := 0 } A cap ∧ Fr (RepS b A) w U ∧ U.heap[w.heap.size + 1]? = some (.cells #[.bool false, .int .i64 0, .int .i64 0, .int .i64 0, .slice none 0 0, .slice none 0 0] 45) ∧
      U.heap[w1.heap.size]? = some (.cells (msgCells (M.message r 3 m.fr) (.slice none 0 0)).toArray 37) ∧ U.heap.size = W.heap.size ∧ U.heap[w.heap.size]? = W.heap[w.heap.size]?) ⟨HRW.out.drewN _, HFW.out.drewNs _, HZW.out, HAW.out, rfl, rfl⟩ ?_
    clear c3 m4 m5 a4 g4 HRW HFW HZW HAW
    rintro U ⟨hRU, hFU, hzU, haU, hsU, hmU⟩
    have c3 := hRU.cells.2.2.2.1
    have m4 := cell_blk (hmU.trans HMW.out) 4
    have a4 := cell_blk haU 4
    have g4 := free_blk haU 4
    simp only [msgCells, List.getElem?_cons_succ, List.getElem?_cons_zero, M.message] at m4 a4
    have hbU := hRU.lt
    have haL := lt_blk haU
    have hzL := lt_blk hzU
    have hmL : w.heap.size < U.heap.size := by omega
    have hlU := hRU.rowLt
    have HRU := Lib.hid hRU
    have HFU := Lib.hid hFU
    have HZU := Lib.hid hzU
    have HAU := Lib.hid haU
    clear hRU hFU hzU haU hmU
    go_region
    all_goals
      generalize hX : m.index - 1 = X
      have hX2 : min (r.log.length : Int) X = X := by
        omega
      have hR := HR.out
      rw [hX, hX2] at hR
      have HR2 := Lib.hid hR
      clear hR hX hX2
      go_upto_region 9 with fail
      refine wp_world (fun V => RepOk V b { r with role := 0 } A cap ∧ Fr (RepS b A) w V ∧ V.heap[w.heap.size + 1]? = some (.cells #[.bool false, .int .i64 0, .int .i64 0, .int .i64 0, .slice none 0 0, .slice none 0 0] 45) ∧
        V.heap[w1.heap.size]? = some (.cells (msgCells { M.message r 3 m.fr with index := X } (.slice none 0 0)).toArray 37))
        ⟨RepOk.far (HRU.out.drewN _) (a := ⟨w1.heap.size, 4, none⟩) (by show w1.heap.size ≠ b; omega) (fun ad e => by have := HH.out.rowLt ad e; show ad.block ≠ w1.heap.size; omega) _,
         (HFU.out.drewNs _).setCell (p := ⟨w1.heap.size, 4, none⟩) (.inr (by show w.heap.size ≤ w1.heap.size; omega)) _,
         (other_blk (by show w.heap.size + 1 ≠ w1.heap.size; omega)).trans HZU.out, set_blk HAU.out 4 _⟩ ?_
      clear c3 m4 a4 g4 HRU HFU HZU HAU
      rintro V ⟨hRV, hFV, hzV, haV⟩
      have x0 := cell_blk haV 0
      have x1 := cell_blk haV 1
      have x2 := cell_blk haV 2
      have x3 := cell_blk haV 3
      have x4 := cell_blk haV 4
      have x5 := cell_blk haV 5
      have x6 := cell_blk haV 6
      have x7 := cell_blk haV 7
      have x8 := cell_blk haV 8
      simp only [msgCells, List.getElem?_cons_succ, List.getElem?_cons_zero, M.message] at x0 x1 x2 x3 x4 x5 x6 x7 x8
      have haL := lt_blk haV
      have HRV := Lib.hid hRV
      have HFV := Lib.hid hFV
      have HZV := Lib.hid hzV
      clear hRV hFV hzV haV
      go_wp2_with fail
      show Calls Try.prog 58 #[msgVal { M.message r 3 m.fr with index := X } (.slice none 0 0)] _ _
      refine (answer_calls { M.message r 3 m.fr with index := X } (.slice none 0 0) V w.heap.size HFV.out.size (World.ownsRow_nil _ _ _ _)).mono ?_
      clear x0 x1 x2 x3 x4 x5 x6 x7 x8
      rintro e w3 ⟨rv, sv, rfl, hok, hb3⟩
      obtain ⟨rA, rc, rfl⟩ := own_form hok.recs
      obtain ⟨sA, sc, rfl⟩ := msgs_form hok.send
      have HZ := Lib.hid ((hb3.block _ (lt_blk HZV.out)).trans HZV.out)
      have HOK := Lib.hid hok
      have HB3 := Lib.hid hb3
      clear hok hb3
      unfold outVal
      go_wp2_with (refine wpList_store_list rfl 45 (.tmp 4) (.tmp 61) rfl (w.heap.size + 1) _ rfl rfl 45 _ HZ.out 6 size45 rfl rfl rfl ?_)
      refine bodyPost_ret (v := _) (results_cell_row rfl _ _ (w.heap.size + 1) 45 _ (0, 0) _ rfl (setRow_heap _ _ _ _ _ _ HZ.out) Try.underlying45 rfl size45) rfl ?_
      rw [HR2.out]
      exact after_setRow (HRV.out.below HB3.out (Nat.le_refl _)) (.inl rfl) HOK.out (HFV.out.trans (Fr.of_below HB3.out)) ⟨_, _, HZ.out⟩ (by omega) _
end
end Go.Proofs.Ytodmihpmbecncaa
