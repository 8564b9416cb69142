/-
  The walk of the reference's voted: it computes what the model says.
-/
import Derived.Test.YtodmihpmbecncaaQd
namespace Go.Proofs.Ytodmihpmbecncaa
open Go.RowKit

section
variable {w : World} {b : Nat} {r : Rep} {A : Option Addr} {cap gv gn gm : Nat}

def z45 : Obj := .cells #[.bool false, .int .i64 0, .int .i64 0, .int .i64 0, .slice none 0 0, .slice none 0 0] 45

set_option maxHeartbeats 800000 in
theorem qvoted_calls_no (h : QOk w b r A cap gv gn gm) (m : Msg) (n : Nat) (mA : Option Addr) (mc : Nat) (hno : r.role ≠ 1 ∨ m.term ≠ r.hard.term ∨ m.yes = false) :
    Calls Try.prog 48 #[.pointer (some ⟨b, 0, none⟩), msgVal m (.slice mA n mc)] w (AfterQ w b A gv gn gm (M.voted r m).1 (M.voted r m).2) := by
  rw [voted_no hno]
  unfold msgVal msgCells
  have hb := h.lt
  obtain ⟨c0, c1, c2, c3, c4, _⟩ := h.cells
  have HH := Lib.hid h
  clear h
  have hd : (r.role != 1) = true ∨ ((r.role != 1) = false ∧ (m.term != r.hard.term) = true) ∨ ((r.role != 1) = false ∧ (m.term != r.hard.term) = false ∧ m.yes = false) := by
    by_cases h1 : r.role = 1
    · by_cases h2 : m.term = r.hard.term
      · right; right; refine ⟨by simp [h1], by simp [h2], ?_⟩
        rcases hno with h | h | h
        · exact absurd h1 h
        · exact absurd h2 h
        · exact h
      · right; left; exact ⟨by simp [h1], by simp [h2]⟩
    · left; simp [h1]
  clear hno
  go_enter Try.func48, Try.ntmps48
  go_wp2_with fail
  rcases hd with d1 | ⟨d1, d2⟩ | ⟨d1, d2, d3⟩
  all_goals go_quiet (fail)
  all_goals
    go_upto_region 2 with fail
    refine wp_world (fun W => QOk W b r A cap gv gn gm ∧ Fr (QS b A gv gn gm) w W ∧ W.heap[w.heap.size + 1]? = some (.cells #[.bool false, .int .i64 0, .int .i64 0, .int .i64 0, .slice none 0 0, .slice none 0 0] 45))
      ⟨((HH.out.alloc _).alloc _).below (below_drewN (Below.refl _ _) _) (Nat.le_refl _), (((Fr.refl _ w).alloc _).alloc _).trans (Fr.of_below (below_drewN (Below.refl _ _) _)), heap_alloc2_new w _ _⟩ ?_
    rintro W ⟨hR, hF, hZ⟩
    have HR := Lib.hid hR
    have HF := Lib.hid hF
    have HZ := Lib.hid hZ
    clear hR hF hZ
    go_wp2_with (refine wpList_store_list rfl 45 (.tmp 4) (.tmp 28) rfl (w.heap.size + 1) _ rfl rfl 45 _ HZ.out 6 size45 rfl rfl rfl ?_)
    exact bodyPost_ret (v := _) (results_cell_row rfl _ _ (w.heap.size + 1) 45 _ (0, 0) _ rfl (setRow_heap _ _ _ _ _ _ HZ.out) Try.underlying45 rfl size45) rfl
      (afterq_setRow (o := M.noOut) (rv := .slice none 0 0) (sv := .slice none 0 0) HR.out (fun k hk => .inl hk) (OutOk.nil _ _) HF.out ⟨_, _, HZ.out⟩ (by omega) _)

set_option maxHeartbeats 800000 in
theorem qvoted_calls_yes (h : QOk w b r A cap gv gn gm) (m : Msg) (n : Nat) (mA : Option Addr) (mc : Nat) (h1 : r.role = 1) (h2 : m.term = r.hard.term) (h3 : m.yes = true) (hf0 : 0 ≤ m.fr) (hf2 : m.fr ≤ 2) :
    Calls Try.prog 48 #[.pointer (some ⟨b, 0, none⟩), msgVal m (.slice mA n mc)] w (AfterQ w b A gv gn gm (M.voted r m).1 (M.voted r m).2) := by
  unfold msgVal msgCells
  have hb := h.lt
  obtain ⟨fr, hfr⟩ := Int.eq_ofNat_of_zero_le hf0
  have hfr3 : fr < 3 := by omega
  have hfrI : (fr : Int) < 3 := by omega
  have hlen := h.wf.len
  have HH := Lib.hid h
  have HF := Lib.hid hfr
  have H1 := Lib.hid (And.intro h1 (And.intro h2 h3))
  have d1 : (r.role != 1) = false := by simp [h1]
  have d2 : (m.term != r.hard.term) = false := by simp [h2]
  clear h h1 h2 h3 hfr
  go_enter Try.func48, Try.ntmps48
  go_upto_region 1 with fail
  refine wp_world (fun W => QOk W b r A cap gv gn gm ∧ Fr (QS b A gv gn gm) w W ∧ W.heap[w.heap.size]? = some (.cells (msgCells m (.slice mA n mc)).toArray 37) ∧ W.heap[w.heap.size + 1]? = some (.cells #[.bool false, .int .i64 0, .int .i64 0, .int .i64 0, .slice none 0 0, .slice none 0 0] 45))
    ⟨(HH.out.alloc _).alloc _, ((Fr.refl _ w).alloc _).alloc _, (Below.heap_alloc _ _ _ (by simp)).trans (heap_alloc_new w _), heap_alloc2_new w _ _⟩ ?_
  rintro W ⟨hR, hFw, hM, hZ⟩
  obtain ⟨c0, c1, c2, c3, c4, c5, c6, c7, c8⟩ := hR.cells
  have v6 := hR.votes fr hfr3
  have f6 := hR.freev fr
  have m1 := cell_blk hM 1
  have m3 := cell_blk hM 3
  have m7 := cell_blk hM 7
  simp only [msgCells, List.getElem?_cons_succ, List.getElem?_cons_zero, HF.out] at m1 m3 m7
  have hl0 := lt_blk hM
  have hbW := hR.lt
  have hgv := lt_blk hR.vo
  have HR := Lib.hid hR
  have HFw := Lib.hid hFw
  have HZ := Lib.hid hZ
  clear hR hFw hM hZ
  have d3 := H1.out.2.2
  go_quiet (fail)
  go_upto_region 3 with fail
  go_region
  all_goals go_upto_region 4 with fail
  refine wp_world (fun U => QB U b { r with votes := r.votes.set fr true } A cap gv gn gm ∧ Fr (QS b A gv gn gm) w U ∧ U.heap[w.heap.size + 1]? = some (.cells #[.bool false, .int .i64 0, .int .i64 0, .int .i64 0, .slice none 0 0, .slice none 0 0] 45)) ⟨?_, ?_, ?_⟩ ?_
  · exact QB.putVotes (HR.out.toQB.below (below_drewN (Below.refl _ _) _) (Nat.le_refl _)) fr true
  · exact ((HFw.out.trans (Fr.of_below (below_drewN (Below.refl _ _) _)))).setCell (p := ⟨gv, fr, none⟩) (.inl (.inr (.inr (.inl rfl)))) _
  · exact (other_blk (fun e => by have := HR.out.kv.ne (T' := 45) (g' := w.heap.size + 1) ⟨_, _, HZ.out⟩ (by decide); exact this e.symm)).trans HZ.out
  clear c0 c1 c2 c3 c4 c5 c6 c7 c8 v6 f6 m1 m3 m7 HR HFw HZ hbW hgv hl0
  rintro U ⟨hB, hFr, hZ⟩
  obtain ⟨x0, x1, x2, hx⟩ := three (r.votes.set fr true) (by simp [HH.out.vN])
  rw [hx] at hB
  have HX := Lib.hid hx
  clear hx
  have v0 := hB.votes 0 (by omega)
  have v1 := hB.votes 1 (by omega)
  have v2 := hB.votes 2 (by omega)
  obtain ⟨_, _, _, c3, c4, _, c6, c7, c8⟩ := hB.cells
  have f4 := hB.free 4
  have HB := Lib.hid hB
  have HFR := Lib.hid hFr
  have HZ := Lib.hid hZ
  have hbW := hB.lt
  have hgvW := lt_blk hB.vo
  clear hB hFr hZ
  simp only [List.getD_eq_getElem?_getD, List.getElem?_cons_zero, List.getElem?_cons_succ, Option.getD_some] at v0 v1 v2
  go_wp2_with fail
  go_loop [5, 6] (fun n i => ∃ k : Nat, k ≤ 3 ∧ i = .int .i64 k ∧ n = .int .i64 (M.count ([x0, x1, x2].take k) : Nat)) (fun _ i => 3 - (intOf i).toNat)
  case atStart => exact ⟨0, by omega, rfl, rfl⟩
  case round =>
    obtain ⟨k, hk, rfl, rfl⟩ := hrel
    have hk4 : k = 0 ∨ k = 1 ∨ k = 2 ∨ k = 3 := by omega
    rcases hk4 with rfl | rfl | rfl | rfl
    · cases x0
      all_goals
        go_wp2
        go_round
        case rel => exact ⟨1, by omega, rfl, by first | rfl | simp [wrap64, M.count]⟩
        case measure => decide
    · cases x0 <;> cases x1
      all_goals
        go_wp2
        go_round
        case rel => exact ⟨2, by omega, rfl, by first | rfl | simp [wrap64, M.count]⟩
        case measure => decide
    · cases x0 <;> cases x1 <;> cases x2
      all_goals
        go_wp2
        go_round
        case rel => exact ⟨3, by omega, rfl, by first | rfl | simp [wrap64, M.count]⟩
        case measure => decide
    · have hcnt : ([x0, x1, x2].take 3) = [x0, x1, x2] := rfl
      rw [hcnt]
      have hc3 : M.count [x0, x1, x2] ≤ 3 := by cases x0 <;> cases x1 <;> cases x2 <;> decide
      clear hcnt
      have hnv : r.role = 1 ∧ m.term = r.hard.term ∧ m.yes = true := H1.out
      have HNV : Hid (¬ (r.role ≠ 1 ∨ m.term ≠ r.hard.term ∨ m.yes = false)) := by
        rintro (h | h | h)
        · exact h hnv.1
        · exact h hnv.2.1
        · rw [hnv.2.2] at h; cases h
      clear hnv d3
      by_cases hlt : M.count [x0, x1, x2] < 2
      · have HR : Hid (M.voted r m = ({ r with votes := r.votes.set fr true }, M.noOut)) := by
          show _ = _
          unfold M.voted
          rw [if_neg HNV.out]
          simp only [HF.out, Int.toNat_natCast, HX.out]
          rw [if_pos hlt]
        go_wp2_with (refine wpList_store_list rfl 45 (.tmp 4) (.tmp 51) rfl (w.heap.size + 1) _ rfl rfl 45 _ HZ.out 6 size45 rfl rfl rfl ?_)
        refine bodyPost_ret (v := _) (results_cell_row rfl _ _ (w.heap.size + 1) 45 _ (0, 0) _ rfl (setRow_heap _ _ _ _ _ _ HZ.out) Try.underlying45 rfl size45) rfl ?_
        rw [HR.out, HX.out]
        exact afterq_setRow (o := M.noOut) (rv := .slice none 0 0) (sv := .slice none 0 0) ⟨HB.out, HH.out.wf.votes (by rfl)⟩ (fun k hk => .inl hk) (OutOk.nil _ _) HFR.out ⟨_, _, HZ.out⟩ (by omega) _
      · have hR : M.voted r m = ({ r with votes := r.votes.set fr true, role := 2, next := [(r.log.length : Int) + 1, (r.log.length : Int) + 1, (r.log.length : Int) + 1], mtch := [0, 0, 0] }, { M.noOut with send := M.all { r with votes := r.votes.set fr true, role := 2, next := [(r.log.length : Int) + 1, (r.log.length : Int) + 1, (r.log.length : Int) + 1], mtch := [0, 0, 0] } }) := by
          unfold M.voted
          rw [if_neg HNV.out]
          simp only [HF.out, Int.toNat_natCast]
          rw [if_neg (by rw [HX.out]; exact hlt)]
        rw [HX.out] at hR
        have HR := Lib.hid hR
        have hlt' : ¬ ((M.count [x0, x1, x2] : Int) < 2) := by omega
        clear hR
        go_upto_region 13 with fail
        refine wp_world (fun V => QB V b { r with votes := [x0, x1, x2], role := 2 } A cap gv gn gm ∧ Fr (QS b A gv gn gm) w V ∧ V.heap[w.heap.size + 1]? = some (.cells #[.bool false, .int .i64 0, .int .i64 0, .int .i64 0, .slice none 0 0, .slice none 0 0] 45)) ⟨HB.out.putRole 2, HFR.out.setCell (p := ⟨b, 4, none⟩) (.inl (.inl rfl)) _, (other_blk (by show w.heap.size + 1 ≠ b; omega)).trans HZ.out⟩ ?_
        rintro V ⟨hBV, hFV, hZV⟩
        clear hlt hlt' hc3 c3 c4 c6 c7 c8 f4 v0 v1 v2 hbW hgvW
        have HBV := Lib.hid hBV
        have HFV := Lib.hid hFV
        have HZV := Lib.hid hZV
        clear hBV hFV hZV
        go_wp2_with fail
        go_loopw [7] (fun i wr => ∃ k : Nat, k ≤ 3 ∧ i = .int .i64 k ∧ QB wr b { r with votes := [x0, x1, x2], role := 2, next := fillTo k ((r.log.length : Int) + 1) r.next, mtch := fillTo k 0 r.mtch } A cap gv gn gm ∧ Fr (QS b A gv gn gm) w wr ∧
          wr.heap[w.heap.size + 1]? = some (.cells #[.bool false, .int .i64 0, .int .i64 0, .int .i64 0, .slice none 0 0, .slice none 0 0] 45)) (fun i _ => 3 - (intOf i).toNat)
        case atStart => exact ⟨0, by omega, rfl, HBV.out, HFV.out, HZV.out⟩
        case round =>
          obtain ⟨k, hk, rfl, hBr, hFr, hZr⟩ := hrel
          have hbr := hBr.lt
          by_cases hlt : k < 3
          · have hltI : (k : Int) < 3 := by omega
            have nk := hBr.next k hlt
            have mk := hBr.mtch k hlt
            have fn := hBr.freen k
            have fm := hBr.freem k
            obtain ⟨_, _, _, c3, _, _, _, c7, c8⟩ := hBr.cells
            have hgn := lt_blk hBr.no
            have hgm := lt_blk hBr.mo
            have hnm := hBr.nm
            have hnb : gn ≠ b := hBr.kn.ne hBr.kind (by decide)
            have hmb : gm ≠ b := hBr.km.ne hBr.kind (by decide)
            have hnz : w.heap.size + 1 ≠ gn := Kind.ne (T := 45) ⟨_, _, hZr⟩ hBr.kn (by decide)
            have hmz : w.heap.size + 1 ≠ gm := Kind.ne (T := 45) ⟨_, _, hZr⟩ hBr.km (by decide)
            have HBr := Lib.hid hBr
            have HFr := Lib.hid hFr
            have HZr := Lib.hid hZr
            clear hBr hFr hZr
            go_upto_region 16 with fail
            go_region
            all_goals go_wp2
            go_roundw
            case rel =>
              refine ⟨k + 1, by omega, by go_num, ?_, ((HFr.out.setCell (p := ⟨gn, k, none⟩) (.inl (.inr (.inr (.inr (.inl rfl))))) _).setCell (p := ⟨gm, k, none⟩) (.inl (.inr (.inr (.inr (.inr rfl))))) _).drew, (other_blk hmz).trans ((other_blk hnz).trans HZr.out)⟩
              have hq := ((HBr.out.putNext k ((r.log.length : Int) + 1)).putMtch k 0).drew
              have e1 : (fillTo k ((r.log.length : Int) + 1) r.next).set k ((r.log.length : Int) + 1) = fillTo (k + 1) ((r.log.length : Int) + 1) r.next := fillTo_set (by rw [HH.out.nN]; exact hlt)
              have e2 : (fillTo k 0 r.mtch).set k 0 = fillTo (k + 1) 0 r.mtch := fillTo_set (by rw [HH.out.mN]; exact hlt)
              simp only [e1, e2] at hq
              exact hq
            case measure => simp [intOf]; omega
          · obtain rfl : k = 3 := by omega
            rw [fillTo_all HH.out.nN, fillTo_all HH.out.mN] at hBr
            have hwf := HH.out.wf.lead (v := [x0, x1, x2]) rfl
            have hRr : QOk wr b _ A cap gv gn gm := ⟨hBr, hwf⟩
            have HRr := Lib.hid hRr
            have HFr := Lib.hid hFr
            have HNX := Lib.hid (hwf.nexts rfl)
            have HZr := Lib.hid hZr
            clear hBr hFr hZr hRr hwf
            go_wp2_with fail
            refine (qall_calls HRr.out HNX.out).mono ?_
            rintro e w4 ⟨sv, rfl, hm, hb4⟩
            obtain ⟨sA, sc, rfl⟩ := msgs_form hm
            have HZ4 := Lib.hid ((hb4.block _ (lt_blk HZr.out)).trans HZr.out)
            have HM := Lib.hid hm
            have HB4 := Lib.hid hb4
            clear hm hb4
            go_wp2_with (refine wpList_store_list rfl 45 (.tmp 4) (.tmp 79) rfl (w.heap.size + 1) _ rfl rfl 45 _ HZ4.out 6 size45 rfl rfl rfl ?_)
            refine bodyPost_ret (v := _) (results_cell_row rfl _ _ (w.heap.size + 1) 45 _ (0, 0) _ rfl (setRow_heap _ _ _ _ _ _ HZ4.out) Try.underlying45 rfl size45) rfl ?_
            rw [HR.out]
            refine afterq_setRow (rv := .slice none 0 0) (HRr.out.below HB4.out (Nat.le_refl _)) (fun k hk => .inl hk) ⟨World.ownsRow_nil _ _ _ _, HM.out.mono HFr.out.size⟩ (HFr.out.trans (Fr.of_below HB4.out)) ⟨_, _, HZ4.out⟩ (by omega) _

theorem qvoted_calls (h : QOk w b r A cap gv gn gm) (m : Msg) (n : Nat) (mA : Option Addr) (mc : Nat) (hf0 : 0 ≤ m.fr) (hf2 : m.fr ≤ 2) :
    Calls Try.prog 48 #[.pointer (some ⟨b, 0, none⟩), msgVal m (.slice mA n mc)] w (AfterQ w b A gv gn gm (M.voted r m).1 (M.voted r m).2) := by
  by_cases hno : r.role ≠ 1 ∨ m.term ≠ r.hard.term ∨ m.yes = false
  · exact qvoted_calls_no h m n mA mc hno
  · exact qvoted_calls_yes h m n mA mc (Decidable.byContradiction fun h1 => hno (.inl h1)) (Decidable.byContradiction fun h1 => hno (.inr (.inl h1))) (by cases hy : m.yes with
      | true => rfl
      | false => exact absurd (.inr (.inr hy)) hno) hf0 hf2
end
end Go.Proofs.Ytodmihpmbecncaa
