/-
  The walk of the reference's vote: it computes what the model says.
-/
import Derived.Test.YtodmihpmbecncaaQc
namespace Go.Proofs.Ytodmihpmbecncaa
open Go.RowKit

/-- What a call on the reference's replica leaves: the new replica, what is handed back, and that nothing else has changed. -/
def AfterQ (w : World) (b : Nat) (A : Option Addr) (gv gn gm : Nat) (r' : Rep) (o : Out) (e : Ending) (w' : World) : Prop :=
  ∃ A' cap' gv' gn' gm' rv sv, e = .returned (outVal o rv sv) ∧ QOk w' b r' A' cap' gv' gn' gm' ∧ (∀ k, QS b A' gv' gn' gm' k → QS b A gv gn gm k ∨ w.heap.size ≤ k) ∧ OutOk w' w.heap.size o rv sv ∧ Fr (QS b A gv gn gm) w w'

section
variable {w : World} {b : Nat} {r : Rep} {A : Option Addr} {cap gv gn gm : Nat}
theorem QB.not45 (h : QB w b r A cap gv gn gm) {k : Nat} (hk : QS b A gv gn gm k) {T : TypeId} (hT : T ≠ 67 ∧ T ≠ 55 ∧ T ≠ 4 ∧ T ≠ 3) : ¬ Kind w k T := by
  rcases hk with rfl | ⟨ad, e, rfl⟩ | rfl | rfl | rfl
  · exact fun hq => hq.ne h.kind hT.1 rfl
  · exact fun hq => hq.ne (h.kA e) hT.2.1 rfl
  · exact fun hq => hq.ne h.kv hT.2.2.1 rfl
  · exact fun hq => hq.ne h.kn hT.2.2.2 rfl
  · exact fun hq => hq.ne h.km hT.2.2.2 rfl
/-- The result is stored into its own block: nothing of the rest is touched. -/
theorem afterq_setRow {w3 : World} {r' : Rep} {o : Out} {A' : Option Addr} {cap' gv' gn' gm' B : Nat} {rv sv : Value} (h : QOk w3 b r' A' cap' gv' gn' gm') (hA : ∀ k, QS b A' gv' gn' gm' k → QS b A gv gn gm k ∨ w.heap.size ≤ k)
    (ho : OutOk w3 w.heap.size o rv sv) (hf : Fr (QS b A gv gn gm) w w3) (hk : Kind w3 B 45) (hB : w.heap.size ≤ B) (cs : Array Value) : AfterQ w b A gv gn gm r' o (.returned (outVal o rv sv)) (w3.setRow B cs) := by
  refine ⟨A', cap', gv', gn', gm', rv, sv, rfl, h.fr (fr_setRow _ _ _) ?_, hA, ho.fr (fr_setRow _ _ _) ?_, hf.trans2 (fr_setRow _ _ _) ?_⟩
  · rintro k hq rfl
    exact h.not45 hq ⟨by decide, by decide, by decide, by decide⟩ hk
  · rintro k _ (h1 | h1) hq
    · exact h1.ne hk (by decide) hq
    · exact h1.ne hk (by decide) hq
  · rintro k rfl; exact .inr hB

/-- A message in a new block, as a list of one. -/
theorem outOk_answer {w : World} {base : Nat} (m : Msg) (v : Value) (hb : base ≤ w.heap.size) (hv : w.ownsRow base 55 2 v m.recs.length (recsCells m.recs)) :
    OutOk (w.alloc (.cells (msgCells m v).toArray 37)) base (M.answer m) (.slice none 0 0) (.slice (some ⟨w.heap.size, 0, none⟩) 1 1) :=
  ⟨World.ownsRow_nil _ _ _ _, [(m, v)], rfl, own_mono (own_one_msg w m v) hb, fun p hp => by
    obtain rfl : p = (m, v) := by simpa using hp
    exact own_below hv ((Below.refl w.heap.size w).alloc (Nat.le_refl _) _) (Nat.le_refl _)⟩

set_option maxRecDepth 10000 in
set_option maxHeartbeats 1600000 in
theorem qvote_calls (h : QOk w b r A cap gv gn gm) (m : Msg) (v : Value) (hf0 : 0 ≤ m.fr) (hf2 : m.fr ≤ 2) (n : Nat) (hv : ∃ A cap, v = .slice A n cap) :
    Calls Try.prog 47 #[.pointer (some ⟨b, 0, none⟩), msgVal m v] w (AfterQ w b A gv gn gm (M.vote r m).1 (M.vote r m).2) := by
  obtain ⟨mA, mc, rfl⟩ := hv
  unfold msgVal msgCells
  have hb := h.lt
  have hlen := h.wf.len
  have HH := Lib.hid h
  generalize hlast : M.tm r.log r.log.length = last
  have HLA := Lib.hid hlast
  clear hlast
  have hfr : (∃ q, Hid (M.fresh r m = q) ∧ ((decide (last < m.prev) = true ∧ q = true) ∨ (decide (last < m.prev) = false ∧ (m.prev == last) = false ∧ q = false) ∨ (decide (last < m.prev) = false ∧ (m.prev == last) = true ∧ decide ((r.log.length : Int) ≤ m.index) = q))) := by
    refine ⟨_, rfl, ?_⟩
    unfold M.fresh
    rw [HLA.out]
    cases h1 : decide (last < m.prev)
    · right
      by_cases h2 : m.prev = last
      · right; exact ⟨rfl, by simp [h2], by simp [h2]⟩
      · left; exact ⟨rfl, by simp [h2], by simp [h2]⟩
    · left; exact ⟨rfl, by simp⟩
  obtain ⟨q, HQ, hq⟩ := hfr
  have hd : (m.term == r.hard.term) = false ∨ ((m.term == r.hard.term) = true ∧ (r.hard.vote == -1) = true) ∨ ((m.term == r.hard.term) = true ∧ (r.hard.vote == -1) = false ∧ (r.hard.vote == m.fr) = true) ∨ ((m.term == r.hard.term) = true ∧ (r.hard.vote == -1) = false ∧ (r.hard.vote == m.fr) = false) := by
    cases (m.term == r.hard.term) <;> cases (r.hard.vote == -1) <;> cases (r.hard.vote == m.fr) <;> simp
  clear h
  go_enter Try.func47, Try.ntmps47
  go_wp2_with fail
  refine (qmessage_calls ((HH.out.alloc _).alloc _) 1 m.fr).mono ?_
  rintro e w1 ⟨rfl, hb1⟩
  have h1 := ((HH.out.alloc _).alloc _).below hb1 (Nat.le_refl _)
  have hb1w : w.heap.size + 2 ≤ w1.heap.size := by have := hb1.size; simp at this; omega
  have hw0 : w.heap.size < w1.heap.size := by omega
  have hw1 : w.heap.size + 1 < w1.heap.size := by omega
  have hm1 : w1.heap[w.heap.size]? = some (.cells (msgCells m (.slice mA n mc)).toArray 37) := (hb1.block _ (by simp; omega)).trans ((Below.heap_alloc _ _ _ (by simp)).trans (heap_alloc_new w _))
  have hz1 : w1.heap[w.heap.size + 1]? = some (.cells #[.bool false, .int .i64 0, .int .i64 0, .int .i64 0, .slice none 0 0, .slice none 0 0] 45) := (hb1.block _ (by simp)).trans (heap_alloc2_new w _ _)
  have hfw1 : Fr (QS b A gv gn gm) w w1 := (((Fr.refl _ w).alloc _).alloc _).trans (Fr.of_below hb1)
  unfold msgVal msgCells M.message
  have hm1' := cell_blk hm1 1
  simp only [msgCells, List.getElem?_cons_succ, List.getElem?_cons_zero] at hm1'
  obtain ⟨_, _, _, c3, _⟩ := h1.cells
  have hbw1 := h1.lt
  have H1 := Lib.hid h1
  have HM1 := Lib.hid hm1
  have HZ1 := Lib.hid hz1
  have HF1 := Lib.hid hfw1
  have HB1 := Lib.hid hb1
  clear h1 hm1 hz1 hfw1 hb1
  go_upto_region 3 with (go_at_call 53; refine (qterm_calls (r := r) (H1.out.alloc _) (r.log.length : Int) (by omega) (by omega)).mono ?_; rw [HLA.out]; rintro e w2 ⟨rfl, rfl⟩)
  refine wp_world (fun W => QOk W b r A cap gv gn gm ∧ Fr (QS b A gv gn gm) w W ∧ W.heap[w.heap.size]? = some (.cells (msgCells m (.slice mA n mc)).toArray 37) ∧ W.heap[w.heap.size + 1]? = some (.cells #[.bool false, .int .i64 0, .int .i64 0, .int .i64 0, .slice none 0 0, .slice none 0 0] 45) ∧
      W.heap[w1.heap.size]? = some (.cells (msgCells (M.message r 1 m.fr) (.slice none 0 0)).toArray 37))
    ⟨H1.out.alloc _, HF1.out.alloc _, (Below.heap_alloc _ _ _ hw0).trans HM1.out, (Below.heap_alloc _ _ _ hw1).trans HZ1.out, heap_alloc_new w1 _⟩ ?_
  clear c3 hm1' H1 HM1 HZ1 HF1 HB1
  rintro W ⟨hR, hF, hM, hZ, hX⟩
  obtain ⟨c0, c1, c2, c3, _⟩ := hR.cells
  have hbW := hR.lt
  have m1 := cell_blk hM 1
  have m3 := cell_blk hM 3
  have m4 := cell_blk hM 4
  have m5 := cell_blk hM 5
  have x7 := cell_blk hX 7
  have f7 := free_blk hX 7
  simp only [msgCells, M.message, List.getElem?_cons_succ, List.getElem?_cons_zero] at m1 m3 m4 m5 x7
  have hl0 := lt_blk hM
  have hlx := lt_blk hX
  have hbx : b ≠ w1.heap.size := by omega
  have HR := Lib.hid hR
  have HF := Lib.hid hF
  have HM := Lib.hid hM
  have HZ := Lib.hid hZ
  have HX := Lib.hid hX
  clear hR hF hM hZ hX
  obtain ⟨qq, hqq⟩ : ∃ qq : Bool, qq = decide (m.term = r.hard.term ∧ (r.hard.vote = -1 ∨ r.hard.vote = m.fr) ∧ M.fresh r m = true) := ⟨_, rfl⟩
  have HQQ := Lib.hid hqq
  clear hqq
  go_cut [] (fun wx => QOk wx b r A cap gv gn gm ∧ Fr (QS b A gv gn gm) w wx ∧ wx.heap[w.heap.size]? = some (.cells (msgCells m (.slice mA n mc)).toArray 37) ∧ wx.heap[w.heap.size + 1]? = some (.cells #[.bool false, .int .i64 0, .int .i64 0, .int .i64 0, .slice none 0 0, .slice none 0 0] 45) ∧
      wx.heap[w1.heap.size]? = some (.cells (msgCells { M.message r 1 m.fr with yes := qq } (.slice none 0 0)).toArray 37))
  case first =>
    rcases hq with ⟨q1, rfl⟩ | ⟨q1, q2, rfl⟩ | ⟨q1, q2, q3⟩
    all_goals rcases hd with d1 | ⟨d1, d2⟩ | ⟨d1, d2, d3⟩ | ⟨d1, d2, d3⟩
    all_goals try cases q
    all_goals go_region
    all_goals go_wp2_with fail
    all_goals go_meet
    all_goals
      have hnq : ¬ QS b A gv gn gm w1.heap.size := fun e => by have := HR.out.not45 e (T := 37) ⟨by decide, by decide, by decide, by decide⟩; exact this ⟨_, _, HX.out⟩
      refine ⟨(HR.out.far (a := ⟨w1.heap.size, 7, none⟩) hnq _).drew, (HF.out.setCell (p := ⟨w1.heap.size, 7, none⟩) (.inr (by show w.heap.size ≤ w1.heap.size; omega)) _).drew, (other_blk (by show w.heap.size ≠ w1.heap.size; omega)).trans HM.out, (other_blk (by show w.heap.size + 1 ≠ w1.heap.size; omega)).trans HZ.out, ?_⟩
      first
        | (have hqf : qq = false := by
             rw [HQQ.out, decide_eq_false_iff_not]
             rintro ⟨g1, g2, g3⟩
             first
               | exact absurd g1 (by simpa using d1)
               | exact g2.elim (by simpa using d2) (by simpa using d3)
               | (rw [HQ.out] at g3; cases g3)
           rw [hqf]
           exact set_blk HX.out 7 (.bool false))
        | (have hqt : qq = true := by
             rw [HQQ.out, decide_eq_true_iff]
             exact ⟨by simpa using d1, by first | exact .inl (by simpa using d2) | exact .inr (by simpa using d3), HQ.out⟩
           rw [hqt]
           exact set_blk HX.out 7 (.bool true))
  case rest =>
  clear c0 c1 c2 c3 m1 m3 m4 m5 x7 f7 hq hd HR HF HM HZ HX
  obtain ⟨hR, hF, hM, hZ, hX⟩ := hcut
  have hbW := hR.lt
  have f2 := hR.free 2
  have c2 := hR.cells.2.2.1
  have m1 := cell_blk hM 1
  have x0 := cell_blk hX 0
  have x1 := cell_blk hX 1
  have x2 := cell_blk hX 2
  have x3 := cell_blk hX 3
  have x4 := cell_blk hX 4
  have x5 := cell_blk hX 5
  have x6 := cell_blk hX 6
  have x7 := cell_blk hX 7
  have x8 := cell_blk hX 8
  simp only [msgCells, M.message, List.getElem?_cons_succ, List.getElem?_cons_zero] at m1 x0 x1 x2 x3 x4 x5 x6 x7 x8
  have hz1 := lt_blk hZ
  have HR := Lib.hid hR
  have HF := Lib.hid hF
  have HZ := Lib.hid hZ
  have HX := Lib.hid hX
  clear hR hF hM hZ hX
  cases qq
  · have HNO : Hid (M.vote r m = (r, M.answer (M.message r 1 m.fr))) := by
      show _ = _
      unfold M.vote
      rw [if_neg (by have := HQQ.out; exact of_decide_eq_false this.symm)]
    have HZ2 : Hid ((wc.alloc (.cells (msgCells (M.message r 1 m.fr) (.slice none 0 0)).toArray 37)).heap[w.heap.size + 1]? = _) := (Below.heap_alloc _ _ _ hz1).trans HZ.out
    go_wp2_with (refine wpList_store_list rfl 45 (.tmp 4) (.tmp 77) rfl (w.heap.size + 1) _ rfl rfl 45 _ HZ2.out 6 size45 rfl rfl rfl ?_)
    refine bodyPost_ret (v := _) (results_cell_row rfl _ _ (w.heap.size + 1) 45 _ (0, 0) _ rfl (setRow_heap _ _ _ _ _ _ HZ2.out) Try.underlying45 rfl size45) rfl ?_
    rw [HNO.out]
    exact afterq_setRow (HR.out.alloc _) (fun k hk => .inl hk) (outOk_answer (M.message r 1 m.fr) (.slice none 0 0) HF.out.size (World.ownsRow_nil _ _ _ _)) (HF.out.alloc _) ⟨_, _, HZ2.out⟩ (by omega) _
  · have HYES : Hid (M.vote r m = ({ r with hard := ⟨r.hard.term, m.fr⟩ }, M.answer { M.message r 1 m.fr with yes := true })) := by
      show _ = _
      unfold M.vote
      rw [if_pos (by have := HQQ.out; exact of_decide_eq_true this.symm)]
    have hne : w.heap.size + 1 ≠ b := by omega
    have hnx : b ≠ w1.heap.size := hbx
    have HZ2 : Hid (((wc.setCell ⟨b, 2, none⟩ (.int .i64 m.fr)).alloc (.cells (msgCells { M.message r 1 m.fr with yes := true } (.slice none 0 0)).toArray 37)).heap[w.heap.size + 1]? = _) := (Below.heap_alloc _ _ _ (by simpa using hz1)).trans ((other_blk hne).trans HZ.out)
    go_wp2_with (refine wpList_store_list rfl 45 (.tmp 4) (.tmp 77) rfl (w.heap.size + 1) _ rfl rfl 45 _ HZ2.out 6 size45 rfl rfl rfl ?_)
    refine bodyPost_ret (v := _) (results_cell_row rfl _ _ (w.heap.size + 1) 45 _ (0, 0) _ rfl (setRow_heap _ _ _ _ _ _ HZ2.out) Try.underlying45 rfl size45) rfl ?_
    rw [HYES.out]
    have hF2 : Fr (QS b A gv gn gm) w (wc.setCell ⟨b, 2, none⟩ (.int .i64 m.fr)) := HF.out.setCell (p := ⟨b, 2, none⟩) (.inl (.inl rfl)) _
    have ho := outOk_answer (w := wc.setCell ⟨b, 2, none⟩ (.int .i64 m.fr)) { M.message r 1 m.fr with yes := true } (.slice none 0 0) hF2.size (World.ownsRow_nil _ _ _ _)
    rw [World.size_setCell] at ho
    exact afterq_setRow (QOk.alloc ⟨HR.out.toQB.putVote m.fr, HH.out.wf.vote hf0 hf2⟩ _) (fun k hk => .inl hk) ho (hF2.alloc _) ⟨_, _, HZ2.out⟩ (by omega) _
end
end Go.Proofs.Ytodmihpmbecncaa
