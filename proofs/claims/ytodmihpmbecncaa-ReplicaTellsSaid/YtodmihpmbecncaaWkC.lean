/-
  The walk of replica.entries: it computes what the model says.
-/
import Derived.Test.YtodmihpmbecncaaWkB
namespace Go.Proofs.Ytodmihpmbecncaa
open Go.RowKit

section
variable {w : World} {b : Nat} {r : Rep} {A : Option Addr} {cap : Nat}
theorem entries_slice {w1 : World} {log : List Rec} {A : Option Addr} {cap n : Nat} (ho : w1.ownsRow 0 55 2 (.slice A log.length cap) log.length (recsCells log)) (hlen : log.length ≤ 4000) (hnl : n ≤ log.length) :
    ∃ sv, Sl w1 (0 ≤ ·) 2 sv ((log.drop n).take 8).length (recsCells ((log.drop n).take 8)) ∧
      ∀ W, (Instr.slice 35 (.slice A log.length cap) (some (.int .i64 n)) (some (.int .i64 (if (n : Int) + 8 < (log.length : Int) then (n : Int) + 8 else (log.length : Int)))) none).run Try.prog W = .ok sv W := by
  have hcap := (own_cap ho).1
  have hln : ((log.drop n).take 8).length = min log.length (n + 8) - n := by rw [List.length_take, List.length_drop]; omega
  have hsl0 := (Sl.of_own ho).sub (lo := n) (hi := min log.length (n + 8)) (by omega) (by omega)
  have e1 : (List.drop (n * 2) (recsCells log)).take ((min log.length (n + 8) - n) * 2) = recsCells ((log.drop n).take 8) := by
    rw [← recsCells_drop, ← recsCells_take, ← hln]
    congr 1
    rw [List.take_eq_take_iff, List.length_take]; omega
  rw [e1, ← hln] at hsl0
  refine ⟨_, hsl0, fun W => ?_⟩
  rw [sub35 A log.length cap n _ (by omega) (by split <;> omega) (by split <;> omega) W]
  congr 2
  rw [hln]
  split <;> omega

set_option maxHeartbeats 800000 in
theorem entries_calls (h : RepOk w b r A cap) (to : Nat) (hto : to < 3) (hn1 : 1 ≤ r.next.getD to 0) (hn2 : r.next.getD to 0 ≤ r.log.length + 1) :
    Calls Try.prog 55 #[.pointer (some ⟨b, 0, none⟩), .int .i64 to] w fun e w' => ∃ rv, e = .returned (msgVal (M.entries r to) rv) ∧ w'.ownsRow w.heap.size 55 2 rv (M.entries r to).recs.length (recsCells (M.entries r to).recs) ∧ Below w.heap.size w w' := by
  have hb := h.lt
  have hlen := h.wf.len
  obtain ⟨n, hn⟩ := Int.eq_ofNat_of_zero_le (show 0 ≤ r.next.getD to 0 - 1 by omega)
  have hnl : n ≤ r.log.length := by omega
  have hn' : r.next.getD to 0 = (n : Int) + 1 := by omega
  have HN := Lib.hid hn
  clear hn hn1 hn2
  have hn0 : (0 : Int) ≤ n := by omega
  have hn1 : (n : Int) ≤ r.log.length := by omega
  go_enter Try.func55, Try.ntmps55
  go_wp2_with fail
  refine (message_calls (h.alloc _) 2 to).mono ?_
  rintro e w1 ⟨rfl, hb1⟩
  have h1 : RepOk w1 b r A cap := (h.alloc _).below hb1 (Nat.le_refl _)
  have hb1w : w.heap.size < w1.heap.size := by have := hb1.size; simp at this; omega
  have hbw1 := h1.lt
  have c9 := h1.next to hto
  rw [hn'] at c9
  obtain ⟨c0, c1, c2, c3, c4, c5⟩ := h1.cells
  have HB := Lib.hid hb1
  clear hb1 h hn'
  go_wp2
  go_region_held3 (fun w' => RepOk w' b r A cap ∧ w'.cell? ⟨w1.heap.size, 4, none⟩ = some (.int .i64 n) ∧ w'.cell? ⟨b, 5, none⟩ = some (.int .i64 r.commit))
    (first | exact ⟨(h1.alloc _).drew, by go_simp, by go_simp⟩ | (go_split_ands; refine ⟨RepOk.far (by assumption) (by show w1.heap.size ≠ b; omega) (fun ad e => by have := h1.rowLt ad e; show ad.block ≠ w1.heap.size; omega) _, ?_, ?_⟩; all_goals go_keep))
    ((first | (go_at_call 36; go_split_ands; refine (term_calls (b := b) (r := r) (A := A) (cap := cap) ?hR n hn0 hn1).mono ?hK; (case hR => assumption); rintro e w2 ⟨rfl, rfl⟩)))
  go_wp2_with fail
  refine wp_world (fun W => Below w1.heap.size w1 W ∧ W.heap[w1.heap.size]? = some (.cells [.int .i64 2, .int .i64 r.id, .int .i64 to, .int .i64 r.hard.term, .int .i64 n, .int .i64 (M.tm r.log n), .int .i64 r.commit, .bool false, .slice none 0 0].toArray 37))
    ⟨((Below.refl _ _).alloc (Nat.le_refl _) _).drew, heap_alloc_new w1 _⟩ ?_
  rintro W ⟨hb2, hblk⟩
  have hcap := (own_cap h1.own).1
  have hcl : (M.entries r to).recs = (r.log.drop n).take 8 := by
    simp only [M.entries, HN.out, Int.toNat_natCast]
  obtain ⟨sv, hs1, hsv⟩ := entries_slice h1.own hlen hnl
  generalize (r.log.drop n).take 8 = xs at hcl hs1
  have hx8 : xs.length ≤ 8 := by rw [← hcl]; simp only [M.entries, List.length_take]; omega
  have HS1 := Lib.hid hs1
  have HCL := Lib.hid hcl
  clear hs1 hcl
  have h2 : RepOk W b r A cap := h1.below hb2 (Nat.le_refl _)
  have d3 := h2.cells.2.2.2.1
  have e4 := cell_blk hblk 4
  simp only [List.getElem?_cons_succ, List.getElem?_cons_zero] at e4
  have hB5 := lt_blk hblk
  have HB2 := Lib.hid hb2
  have HBLK := Lib.hid hblk
  have HH1 := Lib.hid h1
  have HH2 := Lib.hid h2
  have HS2 := Lib.hid (HS1.out.below hb2 (Nat.le_refl _))
  clear hb2 hblk h1 h2 HS1
  have hw8 : IntKind.i64.wrap ((n : Int) + 8) = (n : Int) + 8 := IntWalk.i64_in _ (by omega)
  refine wp_region_still_tail 16 (by kernel_rfl) (by kernel_rfl) ?_
  simp only [World.drew_eq, List.take_succ_cons, List.take_zero, List.drop_succ_cons, List.drop_zero]
  repeat still_step
  refine wpStill_nil ?_
  clear hw8
  go_wp2_with fail
  all_goals
    refine (clone_calls _ _ _ (HS2.out.below (w' := W.drew) (Below.refl _ W).drew (Nat.le_refl _)) (by omega)).mono ?_
    rintro e w3 ⟨rv, rfl, hown, hb3⟩
    obtain ⟨rA, rc, rfl⟩ := own_form hown
    have hblk3 : w3.heap[w1.heap.size]? = some (.cells [.int .i64 2, .int .i64 r.id, .int .i64 to, .int .i64 r.hard.term, .int .i64 n, .int .i64 (M.tm r.log n), .int .i64 r.commit, .bool false, .slice none 0 0].toArray 37) := (hb3.block _ hB5).trans HBLK.out
    have hz1 : w1.heap[w.heap.size]? = some (.cells #[.int .i64 0, .int .i64 0, .int .i64 0, .int .i64 0, .int .i64 0, .int .i64 0, .int .i64 0, .bool false, .slice none 0 0] 37) := (HB.out.block _ (by simp)).trans (heap_alloc_new w _)
    have hz3 : w3.heap[w.heap.size]? = some (.cells #[.int .i64 0, .int .i64 0, .int .i64 0, .int .i64 0, .int .i64 0, .int .i64 0, .int .i64 0, .bool false, .slice none 0 0] 37) := ((hb3.block _ (by show w.heap.size < W.heap.size; omega)).trans (HB2.out.block _ hb1w)).trans hz1
    have x0 := cell_blk hblk3 0
    have x1 := cell_blk hblk3 1
    have x2 := cell_blk hblk3 2
    have x3 := cell_blk hblk3 3
    have x4 := cell_blk hblk3 4
    have x5 := cell_blk hblk3 5
    have x6 := cell_blk hblk3 6
    have x7 := cell_blk hblk3 7
    have x8 := cell_blk hblk3 8
    have y0 := free_blk hblk3 8
    simp only [List.getElem?_cons_succ, List.getElem?_cons_zero] at x0 x1 x2 x3 x4 x5 x6 x7 x8
    have hB45 : w.heap.size ≠ w1.heap.size := by omega
    have HQ := Lib.hid ((other_blk (w := w3) (a := ⟨w1.heap.size, 8, none⟩) (v := .slice rA xs.length rc) hB45).trans hz3)
    have HO3 := Lib.hid hown
    have HB3 := Lib.hid hb3
    clear hz1 hz3 hblk3 hown hb3
    go_wp2_with (refine wpList_store_list rfl 37 (.tmp 4) (.tmp 45) rfl w.heap.size _ rfl rfl 37 _ HQ.out 9 size37 rfl rfl rfl ?_)
    refine bodyPost_ret (v := _) (results_cell_row rfl _ _ w.heap.size 37 _ (0, 0) _ rfl (setRow_heap _ _ _ _ _ _ HQ.out) Try.underlying37 rfl size37) rfl ⟨.slice rA xs.length rc, ?_, ?_, ?_⟩
    · have e1 : M.entries r to = { M.message r 2 to with index := n, prev := M.tm r.log n, commit := r.commit, recs := (r.log.drop n).take 8 } := by
        simp only [M.entries, Int.toNat_natCast, HN.out]
      rw [e1]
      rfl
    · rw [HCL.out]
      exact own_mono (own_fr (S := fun k => k = w1.heap.size ∨ k = w.heap.size) HO3.out (((Fr.refl _ w3).setCell (.inl (.inl rfl)) _).setRow (.inl (.inr rfl)) _) (fun k hk => by
        have := own_lt HO3.out hk
        have h5 : (W.drew).heap.size = W.heap.size := rfl
        omega)) (by have h5 : (W.drew).heap.size = W.heap.size := rfl
                    omega)
    · have q1 : Below w.heap.size w w1 := ((Below.refl _ _).alloc (Nat.le_refl _) _).trans (HB.out.mono (by simp))
      have q2 : Below w.heap.size w W := q1.trans (HB2.out.mono (by omega))
      have q3 : Below w.heap.size w w3 := q2.drew.trans (HB3.out.mono (by have h5 : (W.drew).heap.size = W.heap.size := rfl
                                                                          omega))
      exact below_setRow (q3.setCell (p := ⟨w1.heap.size, 8, none⟩) (by show w.heap.size ≤ w1.heap.size; omega) _) (Nat.le_refl _) _
end
end Go.Proofs.Ytodmihpmbecncaa
