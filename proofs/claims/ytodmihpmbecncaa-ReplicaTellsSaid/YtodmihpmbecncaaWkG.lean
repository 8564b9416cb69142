/-
  The walk of replica.vote: it computes what the model says.
-/
import Derived.Test.YtodmihpmbecncaaWkE
namespace Go.Proofs.Ytodmihpmbecncaa
open Go.RowKit

section
variable {w : World} {b : Nat} {r : Rep} {A : Option Addr} {cap : Nat}

theorem M.WF.vote {r : Rep} (h : M.WF r) {v : Int} (h0 : 0 ≤ v) (h2 : v ≤ 2) : M.WF { r with hard := ⟨r.hard.term, v⟩ } :=
  { h with vote0 := by show -1 ≤ v; omega
           vote2 := h2 }
theorem OutOk.fr {S : Nat → Prop} {w w' : World} {base : Nat} {o : Out} {rv sv : Value} (h : OutOk w base o rv sv) (hf : Fr S w w') (hS : ∀ k, base ≤ k → Kind w k 37 ∨ Kind w k 55 → ¬ S k) : OutOk w' base o rv sv :=
  ⟨own_fr h.recs hf (fun k hk => hS k (own_lt h.recs hk).1 (.inr (own_kind h.recs hk))), h.send.fr hf hS⟩
/-- The result is stored into its own block: nothing of the rest is touched. -/
theorem after_setRow {w3 : World} {r' : Rep} {o : Out} {A' : Option Addr} {cap' B : Nat} {rv sv : Value} (h : RepOk w3 b r' A' cap') (hA : FreshRow w w3 A A' o rv sv)
    (ho : OutOk w3 w.heap.size o rv sv) (hf : Fr (RepS b A) w w3) (hk : Kind w3 B 45) (hB : w.heap.size ≤ B) (cs : Array Value) : After w b A r' o (.returned (outVal o rv sv)) (w3.setRow B cs) := by
  refine ⟨A', cap', rv, sv, rfl, h.fr (fr_setRow _ _ _) ?_, hA.imp id (fun h ad e => ⟨(h ad e).1, (h ad e).2.1, (h ad e).2.2.fr (fr_setRow _ _ _) ?_⟩), ho.fr (fr_setRow _ _ _) ?_, hf.trans2 (fr_setRow _ _ _) ?_⟩
  · rintro k (rfl | ⟨ad, h1, h2⟩) hq
    · exact h.kind.ne hk (by decide) hq
    · exact (own_kind h.own (k := ad.block) (by rw [h1]; rfl)).ne hk (by decide) (h2.trans hq)
  · rintro k _ (h1 | h1) hq
    · exact h1.ne hk (by decide) hq
    · exact h1.ne hk (by decide) hq
  · rintro k rfl; exact .inr hB
  · rintro k _ (h1 | h1) hq
    · exact h1.ne hk (by decide) hq
    · exact h1.ne hk (by decide) hq

theorem msgs_form {w : World} {base : Nat} {v : Value} {ms : List Msg} (h : MsgsOk w base v ms) : ∃ A cap, v = .slice A ms.length cap := by
  obtain ⟨ps, h1, h2, _⟩ := h
  obtain ⟨A, c, rfl⟩ := own_form h2
  exact ⟨A, c, by rw [h1, List.length_map]⟩
theorem vote_no {m : Msg} (h : m.term ≠ r.hard.term ∨ (r.hard.vote ≠ -1 ∧ r.hard.vote ≠ m.fr) ∨ M.fresh r m = false) : M.vote r m = (r, M.answer (M.message r 1 m.fr)) := by
  unfold M.vote
  rw [if_neg]
  rintro ⟨h1, h2, h3⟩
  rcases h with h | ⟨h, h'⟩ | h
  · exact h h1
  · exact h2.elim h h'
  · rw [h] at h3; cases h3
theorem vote_yes {m : Msg} (h1 : m.term = r.hard.term) (h2 : r.hard.vote = -1 ∨ r.hard.vote = m.fr) (h3 : M.fresh r m = true) : M.vote r m = ({ r with hard := ⟨r.hard.term, m.fr⟩ }, M.answer { M.message r 1 m.fr with yes := true }) := by
  unfold M.vote
  rw [if_pos ⟨h1, h2, h3⟩]

set_option maxHeartbeats 1600000 in
theorem vote_calls (h : RepOk w b r A cap) (m : Msg) (v : Value) (hf0 : 0 ≤ m.fr) (hf2 : m.fr ≤ 2) (n : Nat) (hv : ∃ A cap, v = .slice A n cap) :
    Calls Try.prog 42 #[.pointer (some ⟨b, 0, none⟩), msgVal m v] w (After w b A (M.vote r m).1 (M.vote r m).2) := by
  obtain ⟨mA, mc, rfl⟩ := hv
  unfold msgVal msgCells
  have hb := h.lt
  have hl := h.rowLt
  have hlen := h.wf.len
  have HH := Lib.hid h
  generalize hlast : M.tm r.log r.log.length = last
  have HLA := Lib.hid hlast
  clear hlast
  have hfr : (∃ q, Hid (M.fresh r m = q) ∧ ((decide (last < m.prev) = true ∧ q = true) ∨ (decide (last < m.prev) = false ∧ (m.prev == last) = false ∧ q = false) ∨ (decide (last < m.prev) = false ∧ (m.prev == last) = true ∧ decide ((r.log.length : Int) ≤ m.index) = q))) := by
    refine ⟨_, rfl, ?_⟩
    unfold M.fresh
    rw [HLA.out]
    cases h1 : decide (last < m.prev)
    · right
      by_cases h2 : m.prev = last
      · right; exact ⟨rfl, by simp [h2], by simp [h2]⟩
      · left; exact ⟨rfl, by simp [h2], by simp [h2]⟩
    · left; exact ⟨rfl, by simp⟩
  obtain ⟨q, HQ, hq⟩ := hfr
  have hd : (m.term == r.hard.term) = false ∨ ((m.term == r.hard.term) = true ∧ (r.hard.vote == -1) = true) ∨ ((m.term == r.hard.term) = true ∧ (r.hard.vote == -1) = false ∧ (r.hard.vote == m.fr) = true) ∨ ((m.term == r.hard.term) = true ∧ (r.hard.vote == -1) = false ∧ (r.hard.vote == m.fr) = false) := by
    cases (m.term == r.hard.term) <;> cases (r.hard.vote == -1) <;> cases (r.hard.vote == m.fr) <;> simp
  clear h
  go_enter Try.func42, Try.ntmps42
  go_wp2_with fail
  refine (message_calls ((HH.out.alloc _).alloc _) 1 m.fr).mono ?_
  rintro e w1 ⟨rfl, hb1⟩
  have h1 := ((HH.out.alloc _).alloc _).below hb1 (Nat.le_refl _)
  have hb1w : w.heap.size + 2 ≤ w1.heap.size := by have := hb1.size; simp at this; omega
  have hw0 : w.heap.size < w1.heap.size := by omega
  have hw1 : w.heap.size + 1 < w1.heap.size := by omega
  have HB1 := Lib.hid hb1
  have H1 := Lib.hid h1
  obtain ⟨c0, c1, c2, c3, _⟩ := h1.cells
  have hm1 : w1.heap[w.heap.size]? = some (.cells (msgCells m (.slice mA n mc)).toArray 37) := (hb1.block _ (by simp; omega)).trans ((Below.heap_alloc _ _ _ (by simp)).trans (heap_alloc_new w _))
  have hz1 : w1.heap[w.heap.size + 1]? = some (.cells #[.bool false, .int .i64 0, .int .i64 0, .int .i64 0, .slice none 0 0, .slice none 0 0] 45) := (hb1.block _ (by simp)).trans (heap_alloc2_new w _ _)
  have m1 := cell_blk hm1 1
  have m3 := cell_blk hm1 3
  have m4 := cell_blk hm1 4
  have m5 := cell_blk hm1 5
  simp only [msgCells, List.getElem?_cons_succ, List.getElem?_cons_zero] at m1 m3 m4 m5
  have HM1 := Lib.hid hm1
  have HZ1 := Lib.hid hz1
  have hbw1 := h1.lt
  have f2 := h1.free 2
  clear h1 hb1 hm1 hz1
  go_wp2_with fail
  refine (term_calls (r := r) (H1.out.alloc _) (r.log.length : Int) (by omega) (by omega)).mono ?_
  rw [HLA.out]
  rintro e w2 ⟨rfl, rfl⟩
  go_wp2_with fail
  rcases hq with ⟨q1, rfl⟩ | ⟨q1, q2, rfl⟩ | ⟨q1, q2, q3⟩
  all_goals go_quiet (fail)
  all_goals go_wp2_with fail
  all_goals rcases hd with d1 | ⟨d1, d2⟩ | ⟨d1, d2, d3⟩ | ⟨d1, d2, d3⟩
  all_goals try cases q
  all_goals go_quiet (fail)
  all_goals go_wp2_with fail
  all_goals try go_region
  all_goals go_wp2_with fail
  all_goals
    have hb9 := (HB1.out.alloc (Nat.le_trans (by simp) hb1w) (.cells (msgCells (M.message r 1 m.fr) (.slice none 0 0)).toArray 37))
    first
      | (have hno : M.vote r m = (r, M.answer (M.message r 1 m.fr)) := vote_no (by first | exact Or.inl (by simpa using d1) | exact Or.inr (Or.inl ⟨by simpa using d2, by simpa using d3⟩) | exact Or.inr (Or.inr HQ.out))
         have HNO := Lib.hid hno
         clear hno
         show Calls Try.prog 58 #[msgVal (M.message r 1 m.fr) (.slice none 0 0)] _ _
         refine calls_world (fun W => RepOk W b r A cap ∧ Fr (RepS b A) w W ∧ W.heap[w.heap.size + 1]? = some (.cells #[.bool false, .int .i64 0, .int .i64 0, .int .i64 0, .slice none 0 0, .slice none 0 0] 45))
           ⟨((HH.out.alloc _).alloc _).below (below_drewN hb9 _) (Nat.le_refl _), (((Fr.refl _ w).alloc _).alloc _).trans (Fr.of_below (below_drewN hb9 _)), (Below.heap_alloc _ _ _ hw1).trans HZ1.out⟩ ?_
         clear hb9
         rintro W ⟨hR, hF, hZ⟩
         refine (answer_calls (M.message r 1 m.fr) (.slice none 0 0) W w.heap.size hF.size (World.ownsRow_nil _ _ _ _)).mono ?_
         rintro e w3 ⟨rv, sv, rfl, hok, hb3⟩
         obtain ⟨rA, rc, rfl⟩ := own_form hok.recs
         obtain ⟨sA, sc, rfl⟩ := msgs_form hok.send
         have HR := Lib.hid hR
         have HF := Lib.hid hF
         have HZ := Lib.hid ((hb3.block _ (lt_blk hZ)).trans hZ)
         have HOK := Lib.hid hok
         have HB3 := Lib.hid hb3
         clear hR hF hZ hok hb3
         unfold outVal
         go_wp2_with (refine wpList_store_list rfl 45 (.tmp 4) (.tmp 76) rfl (w.heap.size + 1) _ rfl rfl 45 _ HZ.out 6 size45 rfl rfl rfl ?_)
         refine bodyPost_ret (v := _) (results_cell_row rfl _ _ (w.heap.size + 1) 45 _ (0, 0) _ rfl (setRow_heap _ _ _ _ _ _ HZ.out) Try.underlying45 rfl size45) rfl ?_
         rw [HNO.out]
         exact after_setRow (HR.out.below HB3.out (Nat.le_refl _)) (.inl rfl) HOK.out (HF.out.trans (Fr.of_below HB3.out)) ⟨_, _, HZ.out⟩ (by omega) _)
      | (have hyes : M.vote r m = ({ r with hard := ⟨r.hard.term, m.fr⟩ }, M.answer { M.message r 1 m.fr with yes := true }) := vote_yes (by simpa using d1) (by first | exact Or.inl (by simpa using d2) | exact Or.inr (by simpa using d3)) HQ.out
         have HYES := Lib.hid hyes
         clear hyes
         show Calls Try.prog 58 #[msgVal { M.message r 1 m.fr with yes := true } (.slice none 0 0)] _ _
         refine calls_world (fun W => RepOk W b { r with hard := ⟨r.hard.term, m.fr⟩ } A cap ∧ Fr (RepS b A) w W ∧ W.heap[w.heap.size + 1]? = some (.cells #[.bool false, .int .i64 0, .int .i64 0, .int .i64 0, .slice none 0 0, .slice none 0 0] 45))
           ⟨⟨RepB.putVote (RepB.far (a := ⟨w1.heap.size, 7, none⟩) (((HH.out.alloc _).alloc _).below (below_drewN hb9 _) (Nat.le_refl _)).toRepB (by show w1.heap.size ≠ b; omega) (fun ad e => by have := hl ad e; show ad.block ≠ w1.heap.size; omega) _) m.fr, HH.out.wf.vote hf0 hf2⟩,
             (((((Fr.refl _ w).alloc _).alloc _).trans (Fr.of_below (below_drewN hb9 _))).setCell (p := ⟨w1.heap.size, 7, none⟩) (.inr (by show w.heap.size ≤ w1.heap.size; omega)) _).setCell (p := ⟨b, 2, none⟩) (.inl (.inl rfl)) _,
             (other_blk (by show w.heap.size + 1 ≠ b; omega)).trans ((other_blk (by show w.heap.size + 1 ≠ w1.heap.size; omega)).trans ((Below.heap_alloc _ _ _ hw1).trans HZ1.out))⟩ ?_
         clear hb9
         rintro W ⟨hR, hF, hZ⟩
         refine (answer_calls { M.message r 1 m.fr with yes := true } (.slice none 0 0) W w.heap.size hF.size (World.ownsRow_nil _ _ _ _)).mono ?_
         rintro e w3 ⟨rv, sv, rfl, hok, hb3⟩
         obtain ⟨rA, rc, rfl⟩ := own_form hok.recs
         obtain ⟨sA, sc, rfl⟩ := msgs_form hok.send
         have HR := Lib.hid hR
         have HF := Lib.hid hF
         have HZ := Lib.hid ((hb3.block _ (lt_blk hZ)).trans hZ)
         have HOK := Lib.hid hok
         have HB3 := Lib.hid hb3
         clear hR hF hZ hok hb3
         unfold outVal
         go_wp2_with (refine wpList_store_list rfl 45 (.tmp 4) (.tmp 76) rfl (w.heap.size + 1) _ rfl rfl 45 _ HZ.out 6 size45 rfl rfl rfl ?_)
         refine bodyPost_ret (v := _) (results_cell_row rfl _ _ (w.heap.size + 1) 45 _ (0, 0) _ rfl (setRow_heap _ _ _ _ _ _ HZ.out) Try.underlying45 rfl size45) rfl ?_
         rw [HYES.out]
         exact after_setRow (HR.out.below HB3.out (Nat.le_refl _)) (.inl rfl) HOK.out (HF.out.trans (Fr.of_below HB3.out)) ⟨_, _, HZ.out⟩ (by omega) _)
end
end Go.Proofs.Ytodmihpmbecncaa
