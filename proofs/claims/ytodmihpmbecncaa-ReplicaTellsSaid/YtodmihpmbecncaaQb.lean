/-
  The walks of the reference's entries and all: they compute what the model says.
-/
import Derived.Test.YtodmihpmbecncaaQa
namespace Go.Proofs.Ytodmihpmbecncaa
open Go.RowKit

section
variable {w : World} {b : Nat} {r : Rep} {A : Option Addr} {cap gv gn gm : Nat}

theorem qS_new {k : Nat} (h : QB w b r A cap gv gn gm) (hk : w.heap.size ≤ k) : ¬ QS b A gv gn gm k := fun q => by have := h.ltS q; omega

set_option maxHeartbeats 800000 in
theorem qentries_calls (h : QOk w b r A cap gv gn gm) (tq : Nat) (hto : tq < 3) (hn1 : 1 ≤ r.next.getD tq 0) (hn2 : r.next.getD tq 0 ≤ r.log.length + 1) :
    Calls Try.prog 60 #[.pointer (some ⟨b, 0, none⟩), .int .i64 tq] w fun e w' => ∃ rv, e = .returned (msgVal (M.entries r tq) rv) ∧ w'.ownsRow w.heap.size 55 2 rv (M.entries r tq).recs.length (recsCells (M.entries r tq).recs) ∧ Below w.heap.size w w' := by
  have hb := h.lt
  have hlen := h.wf.len
  obtain ⟨n, hn⟩ := Int.eq_ofNat_of_zero_le (show 0 ≤ r.next.getD tq 0 - 1 by omega)
  have hnl : n ≤ r.log.length := by omega
  have hn' : r.next.getD tq 0 = (n : Int) + 1 := by omega
  have HN := Lib.hid hn
  clear hn hn1 hn2
  have hn0 : (0 : Int) ≤ n := by omega
  have hn1 : (n : Int) ≤ r.log.length := by omega
  go_enter Try.func60, Try.ntmps60
  go_wp2_with fail
  refine (qmessage_calls (h.alloc _) 2 tq).mono ?_
  rintro e w1 ⟨rfl, hb1⟩
  have h1 : QOk w1 b r A cap gv gn gm := (h.alloc _).below hb1 (Nat.le_refl _)
  have hb1w : w.heap.size < w1.heap.size := by have := hb1.size; simp at this; omega
  have hbw1 := h1.lt
  have c9 := h1.next tq hto
  have hgn := lt_blk h1.no
  rw [hn'] at c9
  obtain ⟨c0, c1, c2, c3, c4, c5, c6, c7, c8⟩ := h1.cells
  have HB := Lib.hid hb1
  have H1 := Lib.hid h1
  clear hb1 h hn' h1
  unfold msgVal msgCells M.message
  have hs9 : ∀ k, w1.heap.size ≤ k → ¬ QS b A gv gn gm k := fun k hk => qS_new H1.out.toQB hk
  go_wp2_with (go_at_call 53; refine (qterm_calls (b := b) (r := r) (A := A) (cap := cap) (gv := gv) (gn := gn) (gm := gm) (H1.out.alloc _) n hn0 hn1).mono ?hK; rintro e w2 ⟨rfl, rfl⟩)
  refine wp_world (fun W => Below w1.heap.size w1 W ∧ W.heap[w1.heap.size]? = some (.cells [.int .i64 2, .int .i64 r.id, .int .i64 tq, .int .i64 r.hard.term, .int .i64 n, .int .i64 (M.tm r.log n), .int .i64 r.commit, .bool false, .slice none 0 0].toArray 37))
    ⟨((Below.refl _ _).alloc (Nat.le_refl _) _), heap_alloc_new w1 _⟩ ?_
  rintro W ⟨hb2, hblk⟩
  have hcl : (M.entries r tq).recs = (r.log.drop n).take 8 := by
    simp only [M.entries, HN.out, Int.toNat_natCast]
  obtain ⟨sv, hs1, hsv⟩ := entries_slice H1.out.own hlen hnl
  generalize (r.log.drop n).take 8 = xs at hcl hs1
  have hx8 : xs.length ≤ 8 := by rw [← hcl]; simp only [M.entries, List.length_take]; omega
  have HS1 := Lib.hid hs1
  have HCL := Lib.hid hcl
  clear hs1 hcl c9 c0 c1 c2 c3 c4 c5 c6 c7 c8
  have h2 : QOk W b r A cap gv gn gm := H1.out.below hb2 (Nat.le_refl _)
  have d3 := h2.cells.2.2.2.1
  have e8 := cell_blk hblk 8
  have f8 := free_blk hblk 8
  simp only [List.getElem?_cons_succ, List.getElem?_cons_zero] at e8
  have hB5 := lt_blk hblk
  have hbW := h2.lt
  have HB2 := Lib.hid hb2
  have HBLK := Lib.hid hblk
  have HH2 := Lib.hid h2
  have HS2 := Lib.hid (HS1.out.below hb2 (Nat.le_refl _))
  clear hb2 hblk h2 HS1
  have hw0 : IntKind.i64.wrap (n : Int) = (n : Int) := IntWalk.i64_in _ (by omega)
  have hw8 : IntKind.i64.wrap ((n : Int) + 1 + 7) = (n : Int) + 8 := (IntWalk.i64_in _ (by omega)).trans (by omega)
  refine wp_region_still_tail 17 (by kernel_rfl) (by kernel_rfl) ?_
  simp only [World.drew_eq, List.take_succ_cons, List.take_zero, List.drop_succ_cons, List.drop_zero]
  repeat still_step
  refine wpStill_nil ?_
  clear hw8 hw0 hsv
  generalize (if (n : Int) + 8 < (r.log.length : Int) then (n : Int) + 8 else (r.log.length : Int)) = mx
  have hB45 : w.heap.size ≠ w1.heap.size := by omega
  have HZ1 : Hid (w1.heap[w.heap.size]? = some (.cells #[.int .i64 0, .int .i64 0, .int .i64 0, .int .i64 0, .int .i64 0, .int .i64 0, .int .i64 0, .bool false, .slice none 0 0] 37)) := (HB.out.block _ (by simp)).trans (heap_alloc_new w _)
  go_wp2_with (first | (refine wpList_store_list rfl 37 (.tmp 4) (.tmp 49) rfl w.heap.size _ rfl rfl 37 _ HQ.out 9 size37 rfl rfl rfl ?_) | at_builtin; refine wpList_append_sl _ rfl _ _ 35 rfl w1.heap.size 55 _ 2 24 Try.underlying35 info55 rfl (by decide) _ 0 [] rfl (World.ownsRow_nil _ _ _ _) (0 ≤ ·) _ xs.length (recsCells xs) rfl (HS2.out.below (Below.refl _ W).drew (Nat.le_refl _)) (recsCells_one xs) ?_ ?_ ?_ ?_; rotate_left 3; intro v' w3 hown hg hat; rw [Nat.zero_add, List.nil_append] at hown; have hg : W.drew.grownBy w3 (Value.slice none 0 0).ownBlock := hg; have hB3 : Below w1.heap.size w1 w3 := (HB2.out.drew).grown hg (Nat.le_of_lt hB5) (fun k hk => by cases hk); have hblk3 : w3.heap[w1.heap.size]? = some (.cells [.int .i64 2, .int .i64 r.id, .int .i64 tq, .int .i64 r.hard.term, .int .i64 n, .int .i64 (M.tm r.log n), .int .i64 r.commit, .bool false, .slice none 0 0].toArray 37) := (hg.block _ hB5 (fun e => by cases e)).trans HBLK.out; obtain ⟨rA, rc, rfl⟩ := own_form hown; have x0 := cell_blk hblk3 0; have x1 := cell_blk hblk3 1; have x2 := cell_blk hblk3 2; have x3 := cell_blk hblk3 3; have x4 := cell_blk hblk3 4; have x5 := cell_blk hblk3 5; have x6 := cell_blk hblk3 6; have x7 := cell_blk hblk3 7; have x8 := cell_blk hblk3 8; have fr8 := free_blk hblk3 8; simp only [List.getElem?_cons_succ, List.getElem?_cons_zero] at x0 x1 x2 x3 x4 x5 x6 x7 x8; have hz3 : w3.heap[w.heap.size]? = some (.cells #[.int .i64 0, .int .i64 0, .int .i64 0, .int .i64 0, .int .i64 0, .int .i64 0, .int .i64 0, .bool false, .slice none 0 0] 37) := (hB3.block _ hb1w).trans HZ1.out; have HQ := Lib.hid ((other_blk (w := w3) (a := ⟨w1.heap.size, 8, none⟩) (v := .slice rA xs.length rc) hB45).trans hz3); have HO3 := Lib.hid hown; have HB3 := Lib.hid hB3; have HBK3 := Lib.hid hblk3; clear hown hB3 hblk3 hg hat hz3)
  · refine bodyPost_ret (v := _) (results_cell_row rfl _ _ w.heap.size 37 _ (0, 0) _ rfl (setRow_heap _ _ _ _ _ _ HQ.out) Try.underlying37 rfl size37) rfl ⟨.slice rA xs.length rc, ?_, ?_, ?_⟩
    · have e1 : M.entries r tq = { M.message r 2 tq with index := n, prev := M.tm r.log n, commit := r.commit, recs := (r.log.drop n).take 8 } := by
        simp only [M.entries, Int.toNat_natCast, HN.out]
      rw [e1]
      rfl
    · rw [HCL.out]
      exact own_mono (own_fr (S := fun k => k = w1.heap.size ∨ k = w.heap.size) HO3.out (((Fr.refl _ w3).setCell (.inl (.inl rfl)) _).setRow (.inl (.inr rfl)) _) (fun k hk => by
        have := (own_kind HO3.out hk).ne ⟨_, _, HBK3.out⟩ (by decide)
        have := (own_lt HO3.out hk).1
        omega)) (by omega)
    · have q1 : Below w.heap.size w w1 := ((Below.refl _ _).alloc (Nat.le_refl _) _).trans (HB.out.mono (by simp))
      have q3 : Below w.heap.size w w3 := q1.trans (HB3.out.mono (by omega))
      exact below_setRow (q3.setCell (p := ⟨w1.heap.size, 8, none⟩) (by show w.heap.size ≤ w1.heap.size; omega) _) (Nat.le_refl _) _
  · simp only [maxLen]; omega
  · omega
  · exact Nat.le_of_lt hB5

def oix (id k : Nat) : Nat := if k ≤ id then k else k - 1
theorem oix_at {id k : Nat} (hid : id < 3) (hk : k < 3) (hne : k ≠ id) : oix id k < 2 ∧ (M.others id).getD (oix id k) 0 = k ∧ oix id (k + 1) = oix id k + 1 := by
  have h1 : id = 0 ∨ id = 1 ∨ id = 2 := by omega
  have h2 : k = 0 ∨ k = 1 ∨ k = 2 := by omega
  rcases h1 with rfl | rfl | rfl <;> rcases h2 with rfl | rfl | rfl <;> first | (exfalso; exact hne rfl) | exact ⟨by decide, rfl, rfl⟩
theorem oix_self {id : Nat} : oix id (id + 1) = oix id id := by unfold oix; rw [if_neg (by omega), if_pos (Nat.le_refl _)]; omega
theorem oix_end {id : Nat} (hid : id < 3) : oix id 3 = 2 := by unfold oix; rw [if_neg (by omega)]
theorem others_take {id k : Nat} (hid : id < 3) (hk : k < 3) (hne : k ≠ id) : (M.others id).take (oix id (k + 1)) = (M.others id).take (oix id k) ++ [(k : Int)] := by
  obtain ⟨h1, h2, h3⟩ := oix_at hid hk hne
  have hk' : oix id k < (M.others id).length := by rw [others_len]; exact h1
  rw [h3, List.take_succ_eq_append_getElem hk']
  rw [List.getD_eq_getElem?_getD, List.getElem?_eq_getElem hk'] at h2
  simp only [Option.getD_some] at h2
  rw [h2]
theorem oix_le {id k : Nat} (hid : id < 3) (hk : k ≤ 3) : oix id k ≤ 2 := by unfold oix; split <;> omega

set_option maxHeartbeats 800000 in
theorem qall_calls (h : QOk w b r A cap gv gn gm) (hn : ∀ j : Nat, j < 3 → 1 ≤ r.next.getD j 0 ∧ r.next.getD j 0 ≤ r.log.length + 1) :
    Calls Try.prog 51 #[.pointer (some ⟨b, 0, none⟩)] w fun e w' => ∃ sv, e = .returned sv ∧ MsgsOk w' w.heap.size sv (M.all r) ∧ Below w.heap.size w w' := by
  have hb := h.lt
  obtain ⟨id, hid⟩ := Int.eq_ofNat_of_zero_le h.wf.id0
  have hid3 : id < 3 := by have := h.wf.id2; omega
  have HI := Lib.hid hid
  have HN := Lib.hid hn
  clear hid hn
  go_enter Try.func51, Try.ntmps51
  go_wp2_with fail
  go_loopw [3, 4] (fun o i wr => ∃ k : Nat, k ≤ 3 ∧ i = .int .i64 k ∧ MsgsOk wr w.heap.size o (((M.others id).take (oix id k)).map (M.entries r)) ∧ Below w.heap.size w wr) (fun _ i _ => 3 - (intOf i).toNat)
  case atStart => exact ⟨0, by omega, rfl, ⟨[], by simp [oix], World.ownsRow_nil _ _ _ _, fun p hp => by cases hp⟩, Below.refl _ _⟩
  case round =>
    obtain ⟨k, hk, rfl, ⟨ps, hps, ho, hpr⟩, hb2⟩ := hrel
    have hr2 : QOk wr b r A cap gv gn gm := h.below hb2 (Nat.le_refl _)
    obtain ⟨oA, oc, rfl⟩ := own_form ho
    have c0 := hr2.cells.1
    rw [HI.out] at c0
    have hbr := hr2.lt
    have HO := Lib.hid ho
    have HP := Lib.hid hpr
    have HPS := Lib.hid hps
    have HB2 := Lib.hid hb2
    have hlen : ps.length = oix id k := by
      have := congrArg List.length hps
      have h2 := oix_le hid3 hk
      simp only [List.length_map, List.length_take, others_len] at this
      omega
    have hl2 : ps.length < 3 := by rw [hlen]; have := oix_le hid3 hk; omega
    have HL := Lib.hid hlen
    have HR2 := Lib.hid hr2
    clear ho hpr hps hb2 hlen hr2
    by_cases hlt : k < 3
    · by_cases hne : k = id
      · subst hne
        have hb0 : ((k : Int) != (k : Int)) = false := by simp
        go_wp2_with fail
        go_roundw
        case rel => exact ⟨k + 1, by omega, by go_num, ⟨ps, by rw [oix_self]; exact HPS.out, HO.out, HP.out⟩, HB2.out⟩
        case measure => simp [intOf]; omega
      · have hb0 : ((k : Int) != (id : Int)) = true := by simp; omega
        have HNE := Lib.hid hne
        clear hne
        go_wp2_with fail
        refine (qentries_calls HR2.out k hlt (HN.out k hlt).1 (HN.out k hlt).2).mono ?_
        rintro e w2 ⟨rv, rfl, ho2, hb3⟩
        obtain ⟨rA, rc, rfl⟩ := own_form ho2
        generalize hm : M.entries r k = m at *
        unfold msgVal msgCells
        have hw2 : wr.heap.size ≤ w2.heap.size := hb3.size
        have hx : Below wr.heap.size wr (w2.alloc (.cells (msgCells m (.slice rA m.recs.length rc)).toArray 37)) := hb3.alloc hw2 _
        have HX := Lib.hid hx
        have HO3 := Lib.hid (own_below HO.out hx (Nat.le_refl _))
        have HS := Lib.hid (sl_one_msg w2 m (.slice rA m.recs.length rc))
        have HM := Lib.hid hm
        have HO2 := Lib.hid ho2
        have HBW := Lib.hid (HB2.out.size)
        clear hm ho2 hb3 hx
        go_wp2_with (at_builtin; refine wpList_append_sl _ rfl _ _ 27 rfl w.heap.size 37 _ 9 88 Try.underlying27 info37 rfl (by decide) _ ps.length (msgsCells ps) rfl HO3.out _ _ 1 _ rfl HS.out ?_ ?_ ?_ ?_ ?_; rotate_left 4; intro v' w3 hown hg hat; clear HO3 HS)
        · have hg : (w2.alloc (.cells (msgCells m (.slice rA m.recs.length rc)).toArray 37)).grownBy w3 (Value.slice oA ps.length oc).ownBlock := hg
          have hgb : ∀ q, (Value.slice oA ps.length oc).ownBlock = some q → w.heap.size ≤ q ∧ q < wr.heap.size := fun q hq => own_lt HO.out hq
          have hb4 : Below w.heap.size w w3 := (HB2.out.trans (HX.out.mono HBW.out)).grown hg (by simp; have := HBW.out; omega) (fun q hq => (hgb q hq).1)
          have hfr : Fr (fun q => (Value.slice oA ps.length oc).ownBlock = some q) wr w3 := (Fr.of_below HX.out).grown hg (fun q hq => .inl hq)
          go_roundw
          case rel =>
            refine ⟨k + 1, by omega, by go_num, ⟨ps ++ [(m, .slice rA m.recs.length rc)], ?_, ?_, ?_⟩, hb4⟩
            · rw [others_take hid3 hlt HNE.out, List.map_append, List.map_append, HPS.out]
              simp only [List.map_cons, List.map_nil, HM.out]
            · rw [msgsCells_append, List.length_append]
              exact hown
            · intro p hp
              rcases List.mem_append.1 hp with hp | hp
              · exact own_fr (HP.out p hp) hfr (fun q hq => own_ne (HP.out p hp) HO.out (by decide) hq)
              · obtain rfl : p = (m, .slice rA m.recs.length rc) := by simpa using hp
                have h1 := own_mono HO2.out (Nat.le_trans HBW.out (Nat.le_refl _))
                have hg2 : Fr (fun q => (Value.slice oA ps.length oc).ownBlock = some q) w2 w3 := ((Fr.refl _ _).alloc _).grown hg (fun q hq => .inl hq)
                refine own_fr h1 hg2 (fun q hq hq' => ?_)
                have a1 := (own_lt HO2.out hq).1
                have a2 := (hgb q hq').2
                omega
          case measure => simp [intOf]; omega
        · exact msgsCells_one _ (fun p hp => by obtain rfl : p = (m, .slice rA m.recs.length rc) := by simpa using hp
                                                rfl)
        · simp only [maxLen]; omega
        · omega
        · have := HBW.out; simp; omega
    · obtain rfl : k = 3 := by omega
      go_wp2
      go_ret
      refine ⟨_, rfl, ⟨ps, ?_, HO.out, HP.out⟩, HB2.out⟩
      rw [← HPS.out, M.all, HI.out, oix_end hid3, List.take_of_length_le (by rw [others_len]; omega)]
end
end Go.Proofs.Ytodmihpmbecncaa
