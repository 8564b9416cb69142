/-
  The walk of replica.voted: it computes what the model says.
-/
import Derived.Test.YtodmihpmbecncaaWkG
import Derived.Deep.CutBlock
import Derived.Deep.DeepCutAuto
namespace Go.Proofs.Ytodmihpmbecncaa
open Go.RowKit

section
variable {w : World} {b : Nat} {r : Rep} {A : Option Addr} {cap : Nat}

theorem voted_no {m : Msg} (h : r.role ≠ 1 ∨ m.term ≠ r.hard.term ∨ m.yes = false) : M.voted r m = (r, M.noOut) := by
  unfold M.voted
  rw [if_pos h]

theorem heap_drewN (w : World) (n : Nat) : (w.drewN n).heap = w.heap := rfl

set_option maxHeartbeats 800000 in
theorem voted_calls_no (h : RepOk w b r A cap) (m : Msg) (n : Nat) (mA : Option Addr) (mc : Nat) (hno : r.role ≠ 1 ∨ m.term ≠ r.hard.term ∨ m.yes = false) :
    Calls Try.prog 43 #[.pointer (some ⟨b, 0, none⟩), msgVal m (.slice mA n mc)] w (After w b A (M.voted r m).1 (M.voted r m).2) := by
  rw [voted_no hno]
  unfold msgVal msgCells
  have hb := h.lt
  obtain ⟨c0, c1, c2, c3, c4, _⟩ := h.cells
  have HH := Lib.hid h
  clear h
  have hd : (r.role != 1) = true ∨ ((r.role != 1) = false ∧ (m.term != r.hard.term) = true) ∨ ((r.role != 1) = false ∧ (m.term != r.hard.term) = false ∧ m.yes = false) := by
    by_cases h1 : r.role = 1
    · by_cases h2 : m.term = r.hard.term
      · right; right; refine ⟨by simp [h1], by simp [h2], ?_⟩
        rcases hno with h | h | h
        · exact absurd h1 h
        · exact absurd h2 h
        · exact h
      · right; left; exact ⟨by simp [h1], by simp [h2]⟩
    · left; simp [h1]
  clear hno
  go_enter Try.func43, Try.ntmps43
  go_wp2_with fail
  rcases hd with d1 | ⟨d1, d2⟩ | ⟨d1, d2, d3⟩
  all_goals go_quiet (fail)
  all_goals
    go_upto_region 2 with fail
    refine wp_world (fun W => RepOk W b r A cap ∧ Fr (RepS b A) w W ∧ W.heap[w.heap.size + 1]? = some (.cells #[.bool false, .int .i64 0, .int .i64 0, .int .i64 0, .slice none 0 0, .slice none 0 0] 45))
      ⟨((HH.out.alloc _).alloc _).below (below_drewN (Below.refl _ _) _) (Nat.le_refl _), (((Fr.refl _ w).alloc _).alloc _).trans (Fr.of_below (below_drewN (Below.refl _ _) _)), heap_alloc2_new w _ _⟩ ?_
    rintro W ⟨hR, hF, hZ⟩
    have HR := Lib.hid hR
    have HF := Lib.hid hF
    have HZ := Lib.hid hZ
    clear hR hF hZ
    go_wp2_with (refine wpList_store_list rfl 45 (.tmp 4) (.tmp 29) rfl (w.heap.size + 1) _ rfl rfl 45 _ HZ.out 6 size45 rfl rfl rfl ?_)
    exact bodyPost_ret (v := _) (results_cell_row rfl _ _ (w.heap.size + 1) 45 _ (0, 0) _ rfl (setRow_heap _ _ _ _ _ _ HZ.out) Try.underlying45 rfl size45) rfl
      (after_setRow (o := M.noOut) (rv := .slice none 0 0) (sv := .slice none 0 0) HR.out (.inl rfl) (OutOk.nil _ _) HF.out ⟨_, _, HZ.out⟩ (by omega) _)

theorem M.WF.votes {r : Rep} (h : M.WF r) {v : List Bool} (hv : v.length = 3) : M.WF { r with votes := v } := { h with votesN := hv }
def fillTo (k : Nat) (x : Int) (l : List Int) : List Int := List.replicate k x ++ l.drop k
theorem fillTo_len {k : Nat} {x : Int} {l : List Int} (h : k ≤ l.length) : (fillTo k x l).length = l.length := by simp [fillTo]; omega
theorem fillTo_set {k : Nat} {x : Int} {l : List Int} (h : k < l.length) : (fillTo k x l).set k x = fillTo (k + 1) x l := by
  unfold fillTo
  rw [List.set_append_right _ _ (by simp), List.drop_eq_getElem_cons h, List.length_replicate, Nat.sub_self, List.set_cons_zero, List.replicate_succ', List.append_assoc]
  rfl
theorem fillTo_all {x : Int} {l : List Int} (h : l.length = 3) : fillTo 3 x l = [x, x, x] := by
  match l, h with
  | [a, b, c], _ => rfl
theorem M.WF.lead {r : Rep} (h : M.WF r) {v : List Bool} (hv : v.length = 3) : M.WF { r with votes := v, role := 2, next := [(r.log.length : Int) + 1, (r.log.length : Int) + 1, (r.log.length : Int) + 1], mtch := [0, 0, 0] } :=
  { h with
    role0 := by show (0 : Int) ≤ 2; omega
    role2 := by show (2 : Int) ≤ 2; omega
    votesN := hv
    nextN := rfl
    mtchN := rfl
    nexts := fun _ j hj => by
      obtain rfl | rfl | rfl : j = 0 ∨ j = 1 ∨ j = 2 := by omega
      all_goals exact ⟨by show (1 : Int) ≤ (r.log.length : Int) + 1; omega, Int.le_refl _⟩
    mtchs := fun _ j hj => by
      obtain rfl | rfl | rfl : j = 0 ∨ j = 1 ∨ j = 2 := by omega
      all_goals exact ⟨Int.le_refl _, by show (0 : Int) ≤ (r.log.length : Int); omega⟩ }
theorem three {α : Type} (l : List α) (h : l.length = 3) : ∃ x y z, l = [x, y, z] := by
  match l, h with
  | [a, b, c], _ => exact ⟨a, b, c, rfl⟩

set_option maxHeartbeats 800000 in
theorem voted_calls_yes (h : RepOk w b r A cap) (m : Msg) (n : Nat) (mA : Option Addr) (mc : Nat) (h1 : r.role = 1) (h2 : m.term = r.hard.term) (h3 : m.yes = true) (hf0 : 0 ≤ m.fr) (hf2 : m.fr ≤ 2) :
    Calls Try.prog 43 #[.pointer (some ⟨b, 0, none⟩), msgVal m (.slice mA n mc)] w (After w b A (M.voted r m).1 (M.voted r m).2) := by
  unfold msgVal msgCells
  have hb := h.lt
  obtain ⟨c0, c1, c2, c3, c4, _⟩ := h.cells
  obtain ⟨fr, hfr⟩ := Int.eq_ofNat_of_zero_le hf0
  have hfr3 : fr < 3 := by omega
  have hfrI : (fr : Int) < 3 := by omega
  have v6 := h.votes fr hfr3
  have f6 := h.free (6 + fr)
  have hlen := h.wf.len
  have HH := Lib.hid h
  have HF := Lib.hid hfr
  have d1 : (r.role != 1) = false := by simp [h1]
  have d2 : (m.term != r.hard.term) = false := by simp [h2]
  have H1 : Hid (r.role = 1 ∧ m.term = r.hard.term ∧ m.yes = true) := ⟨h1, h2, h3⟩
  clear h h1 h2 hfr
  go_enter Try.func43, Try.ntmps43
  go_wp2_with fail
  go_quiet (fail)
  go_wp2_with fail
  rw [HF.out]
  go_region
  all_goals go_upto_region 4 with fail
  refine wp_world (fun W => RepB W b { r with votes := r.votes.set fr true } A cap ∧ Fr (RepS b A) w W ∧ W.heap[w.heap.size + 1]? = some (.cells #[.bool false, .int .i64 0, .int .i64 0, .int .i64 0, .slice none 0 0, .slice none 0 0] 45)) ⟨?_, ?_, ?_⟩ ?_
  · exact RepB.putVotes (((HH.out.alloc _).alloc _).below (below_drewN (Below.refl _ _) _) (Nat.le_refl _)).toRepB fr hfr3 true
  · exact (((((Fr.refl _ w).alloc _).alloc _).trans (Fr.of_below (below_drewN (Below.refl _ _) _)))).setCell (p := ⟨b, 6 + fr, none⟩) (.inl (.inl rfl)) _
  · exact (other_blk (by show w.heap.size + 1 ≠ b; omega)).trans (heap_alloc2_new w _ _)
  rintro W ⟨hB, hFr, hZ⟩
  clear c0 c1 c2 c3 c4 v6 f6
  obtain ⟨x0, x1, x2, hx⟩ := three (r.votes.set fr true) (by simp [HH.out.vN])
  rw [hx] at hB
  have HX := Lib.hid hx
  clear hx
  have v0 := hB.votes 0 (by omega)
  have v1 := hB.votes 1 (by omega)
  have v2 := hB.votes 2 (by omega)
  obtain ⟨_, _, _, c3, c4, _⟩ := hB.cells
  have f4 := hB.free 4
  have HB := Lib.hid hB
  have HFR := Lib.hid hFr
  have HZ := Lib.hid hZ
  have hbW := hB.lt
  clear hB hFr hZ
  have i0 : ∀ w, (Instr.index 73 (.agg #[.bool x0, .bool x1, .bool x2]) (.int .i64 0)).run Try.prog w = .ok (.bool x0) w := fun _ => by kernel_rfl
  have i1 : ∀ w, (Instr.index 73 (.agg #[.bool x0, .bool x1, .bool x2]) (.int .i64 1)).run Try.prog w = .ok (.bool x1) w := fun _ => by kernel_rfl
  have i2 : ∀ w, (Instr.index 73 (.agg #[.bool x0, .bool x1, .bool x2]) (.int .i64 2)).run Try.prog w = .ok (.bool x2) w := fun _ => by kernel_rfl
  go_wp2_with fail
  go_loop [5, 40] (fun n i => ∃ k : Nat, k ≤ 3 ∧ i = .int .i64 k ∧ n = .int .i64 (M.count ([x0, x1, x2].take k) : Nat)) (fun _ i => 3 - (intOf i).toNat)
  case atStart => exact ⟨0, by omega, rfl, rfl⟩
  case round =>
    obtain ⟨k, hk, rfl, rfl⟩ := hrel
    have hk4 : k = 0 ∨ k = 1 ∨ k = 2 ∨ k = 3 := by omega
    rcases hk4 with rfl | rfl | rfl | rfl
    · cases x0
      all_goals
        go_wp2
        go_round
        case rel => exact ⟨1, by omega, rfl, by first | rfl | simp [wrap64, M.count]⟩
        case measure => decide
    · cases x0 <;> cases x1
      all_goals
        go_wp2
        go_round
        case rel => exact ⟨2, by omega, rfl, by first | rfl | simp [wrap64, M.count]⟩
        case measure => decide
    · cases x0 <;> cases x1 <;> cases x2
      all_goals
        go_wp2
        go_round
        case rel => exact ⟨3, by omega, rfl, by first | rfl | simp [wrap64, M.count]⟩
        case measure => decide
    · have hcnt : ([x0, x1, x2].take 3) = [x0, x1, x2] := rfl
      rw [hcnt]
      have hc3 : M.count [x0, x1, x2] ≤ 3 := by cases x0 <;> cases x1 <;> cases x2 <;> decide
      clear hcnt i0 i1 i2
      by_cases hlt : M.count [x0, x1, x2] < 2
      · have hR : M.voted r m = ({ r with votes := r.votes.set fr true }, M.noOut) := by
          unfold M.voted
          rw [if_neg (by rintro (h | h | h)
                         · exact h H1.out.1
                         · exact h H1.out.2.1
                         · rw [H1.out.2.2] at h; cases h)]
          simp only [HF.out, Int.toNat_natCast, HX.out]
          rw [if_pos hlt]
        have HR := Lib.hid hR
        clear hR
        go_wp2_with (refine wpList_store_list rfl 45 (.tmp 4) (.tmp 49) rfl (w.heap.size + 1) _ rfl rfl 45 _ HZ.out 6 size45 rfl rfl rfl ?_)
        refine bodyPost_ret (v := _) (results_cell_row rfl _ _ (w.heap.size + 1) 45 _ (0, 0) _ rfl (setRow_heap _ _ _ _ _ _ HZ.out) Try.underlying45 rfl size45) rfl ?_
        rw [HR.out, HX.out]
        exact after_setRow (o := M.noOut) (rv := .slice none 0 0) (sv := .slice none 0 0) ⟨HB.out, HH.out.wf.votes (by rfl)⟩ (.inl rfl) (OutOk.nil _ _) HFR.out ⟨_, _, HZ.out⟩ (by omega) _
      · have hR : M.voted r m = ({ r with votes := r.votes.set fr true, role := 2, next := [(r.log.length : Int) + 1, (r.log.length : Int) + 1, (r.log.length : Int) + 1], mtch := [0, 0, 0] }, { M.noOut with send := M.all { r with votes := r.votes.set fr true, role := 2, next := [(r.log.length : Int) + 1, (r.log.length : Int) + 1, (r.log.length : Int) + 1], mtch := [0, 0, 0] } }) := by
          unfold M.voted
          rw [if_neg (by rintro (h | h | h)
                         · exact h H1.out.1
                         · exact h H1.out.2.1
                         · rw [H1.out.2.2] at h; cases h)]
          simp only [HF.out, Int.toNat_natCast]
          rw [if_neg (by rw [HX.out]; exact hlt)]
        rw [HX.out] at hR
        have HR := Lib.hid hR
        have hlt' : ¬ ((M.count [x0, x1, x2] : Int) < 2) := by omega
        clear hR
        go_upto_region 13 with fail
        clear hlt hlt' hc3
        go_wp2
        go_loopw [53] (fun i wr => ∃ k : Nat, k ≤ 3 ∧ i = .int .i64 k ∧ RepB wr b { r with votes := [x0, x1, x2], role := 2, next := fillTo k ((r.log.length : Int) + 1) r.next, mtch := fillTo k 0 r.mtch } A cap ∧ Fr (RepS b A) w wr ∧
          wr.heap[w.heap.size + 1]? = some (.cells #[.bool false, .int .i64 0, .int .i64 0, .int .i64 0, .slice none 0 0, .slice none 0 0] 45)) (fun i _ => 3 - (intOf i).toNat)
        case atStart => exact ⟨0, by omega, rfl, HB.out.putRole 2, HFR.out.setCell (p := ⟨b, 4, none⟩) (.inl (.inl rfl)) _, (other_blk (by show w.heap.size + 1 ≠ b; omega)).trans HZ.out⟩
        case round =>
          obtain ⟨k, hk, rfl, hBr, hFr, hZr⟩ := hrel
          have hbr := hBr.lt
          clear c3 c4 f4 v0 v1 v2
          by_cases hlt : k < 3
          · have hltI : (k : Int) < 3 := by omega
            have nk := hBr.next k hlt
            have mk := hBr.mtch k hlt
            have fn := hBr.free (9 + k)
            have fm := hBr.free (12 + k)
            have c3 := hBr.cells.2.2.2.1
            have HBr := Lib.hid hBr
            have HFr := Lib.hid hFr
            have HZr := Lib.hid hZr
            clear hBr hFr hZr
            go_upto_region 17 with fail
            go_region
            all_goals go_wp2
            go_roundw
            case rel =>
              refine ⟨k + 1, by omega, by go_num, ?_, ((HFr.out.setCell (p := ⟨b, 9 + k, none⟩) (.inl (.inl rfl)) _).setCell (p := ⟨b, 12 + k, none⟩) (.inl (.inl rfl)) _).drew, (other_blk (by show w.heap.size + 1 ≠ b; omega)).trans ((other_blk (by show w.heap.size + 1 ≠ b; omega)).trans HZr.out)⟩
              have hq := ((HBr.out.putNext k hlt ((r.log.length : Int) + 1)).putMtch k hlt 0).drew
              have e1 : (fillTo k ((r.log.length : Int) + 1) r.next).set k ((r.log.length : Int) + 1) = fillTo (k + 1) ((r.log.length : Int) + 1) r.next := fillTo_set (by rw [HH.out.nN]; exact hlt)
              have e2 : (fillTo k 0 r.mtch).set k 0 = fillTo (k + 1) 0 r.mtch := fillTo_set (by rw [HH.out.mN]; exact hlt)
              simp only [e1, e2] at hq
              exact hq
            case measure => simp [intOf]; omega
          · obtain rfl : k = 3 := by omega
            rw [fillTo_all HH.out.nN, fillTo_all HH.out.mN] at hBr
            have hwf := HH.out.wf.lead (v := [x0, x1, x2]) rfl
            have hRr : RepOk wr b _ A cap := ⟨hBr, hwf⟩
            have HRr := Lib.hid hRr
            have HFr := Lib.hid hFr
            have HNX := Lib.hid (hwf.nexts rfl)
            have HZr := Lib.hid hZr
            clear hBr hFr hZr hRr hwf
            go_wp2_with fail
            refine (all_calls HRr.out HNX.out).mono ?_
            rintro e w4 ⟨sv, rfl, hm, hb4⟩
            obtain ⟨sA, sc, rfl⟩ := msgs_form hm
            have HZ4 := Lib.hid ((hb4.block _ (lt_blk HZr.out)).trans HZr.out)
            have HM := Lib.hid hm
            have HB4 := Lib.hid hb4
            clear hm hb4
            go_wp2_with (refine wpList_store_list rfl 45 (.tmp 4) (.tmp 75) rfl (w.heap.size + 1) _ rfl rfl 45 _ HZ4.out 6 size45 rfl rfl rfl ?_)
            refine bodyPost_ret (v := _) (results_cell_row rfl _ _ (w.heap.size + 1) 45 _ (0, 0) _ rfl (setRow_heap _ _ _ _ _ _ HZ4.out) Try.underlying45 rfl size45) rfl ?_
            rw [HR.out]
            refine after_setRow (rv := .slice none 0 0) (HRr.out.below HB4.out (Nat.le_refl _)) (.inl rfl) ⟨World.ownsRow_nil _ _ _ _, HM.out.mono HFr.out.size⟩ (HFr.out.trans (Fr.of_below HB4.out)) ⟨_, _, HZ4.out⟩ (by omega) _

theorem voted_calls (h : RepOk w b r A cap) (m : Msg) (n : Nat) (mA : Option Addr) (mc : Nat) (hf0 : 0 ≤ m.fr) (hf2 : m.fr ≤ 2) :
    Calls Try.prog 43 #[.pointer (some ⟨b, 0, none⟩), msgVal m (.slice mA n mc)] w (After w b A (M.voted r m).1 (M.voted r m).2) := by
  by_cases hno : r.role ≠ 1 ∨ m.term ≠ r.hard.term ∨ m.yes = false
  · exact voted_calls_no h m n mA mc hno
  · exact voted_calls_yes h m n mA mc (Decidable.byContradiction fun h1 => hno (.inl h1)) (Decidable.byContradiction fun h1 => hno (.inr (.inl h1))) (by cases hy : m.yes with
      | true => rfl
      | false => exact absurd (.inr (.inr hy)) hno) hf0 hf2
end
end Go.Proofs.Ytodmihpmbecncaa
