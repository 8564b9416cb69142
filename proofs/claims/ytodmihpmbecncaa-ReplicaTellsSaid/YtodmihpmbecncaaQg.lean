/-
  The walk of the reference's Tick: it computes what the model says.
-/
import Derived.Test.YtodmihpmbecncaaQd
namespace Go.Proofs.Ytodmihpmbecncaa
open Go.RowKit

section
variable {w : World} {b : Nat} {r : Rep} {A : Option Addr} {cap gv gn gm : Nat}

theorem qtick_lead (h : QOk w b r A cap gv gn gm) (hr : r.role = 2) : Calls Try.prog 25 #[.pointer (some ⟨b, 0, none⟩)] w (AfterQ w b A gv gn gm r { M.noOut with send := M.all r }) := by
  obtain ⟨_, _, _, _, c4, _⟩ := h.cells
  rw [hr] at c4
  have hb := h.lt
  have HH := Lib.hid h
  have HN := Lib.hid (h.wf.nexts hr)
  clear h hr
  go_enter Try.func25, Try.ntmps25
  go_wp2_with fail
  refine (qall_calls (HH.out.alloc _) HN.out).mono ?_
  rintro e w1 ⟨sv, rfl, hm, hb1⟩
  obtain ⟨sA, sc, rfl⟩ := msgs_form hm
  have hz : w1.heap[w.heap.size]? = some (.cells #[.bool false, .int .i64 0, .int .i64 0, .int .i64 0, .slice none 0 0, .slice none 0 0] 45) := (hb1.block _ (by simp)).trans (heap_alloc_new w _)
  have HZ := Lib.hid hz
  have HB1 := Lib.hid hb1
  have HM := Lib.hid hm
  clear hz hb1 hm
  go_wp2_with (refine wpList_store_list rfl 45 (.tmp 2) (.tmp 13) rfl w.heap.size _ rfl rfl 45 _ HZ.out 6 size45 rfl rfl rfl ?_)
  refine bodyPost_ret (v := _) (results_cell_row rfl _ _ w.heap.size 45 _ (0, 0) _ rfl (setRow_heap _ _ _ _ _ _ HZ.out) Try.underlying45 rfl size45) rfl ?_
  exact afterq_setRow (rv := .slice none 0 0) ((HH.out.alloc _).below HB1.out (Nat.le_refl _)) (fun k hk => .inl hk) ⟨World.ownsRow_nil _ _ _ _, HM.out.mono (by simp)⟩ (((Fr.refl _ w).alloc _).trans (Fr.of_below HB1.out)) ⟨_, _, HZ.out⟩ (Nat.le_refl _) _

theorem qtick_max (h : QOk w b r A cap gv gn gm) (hr : r.role ≠ 2) (ht : r.hard.term = 1099511627776) : Calls Try.prog 25 #[.pointer (some ⟨b, 0, none⟩)] w (AfterQ w b A gv gn gm r M.noOut) := by
  obtain ⟨_, c1, _, _, c4, _⟩ := h.cells
  rw [ht] at c1
  have hb := h.lt
  have hr' : (r.role == 2) = false := by rw [beq_eq_false_iff_ne]; exact hr
  have HH := Lib.hid h
  clear h hr ht
  go_enter Try.func25, Try.ntmps25
  go_wp2
  refine bodyPost_ret (v := _) (results_cell_row rfl _ _ w.heap.size 45 _ (0, 0) _ rfl (heap_alloc_new w _) Try.underlying45 rfl size45) rfl ⟨A, cap, gv, gn, gm, .slice none 0 0, .slice none 0 0, rfl, HH.out.alloc _, fun k hk => .inl hk, OutOk.nil _ _, (Fr.refl _ _).alloc _⟩

theorem QB.putBox (h : QB w b r A cap gv gn gm) (g : Nat) (l : List Bool) (hg : w.heap[g]? = some (.cells (bools l).toArray 4)) (hl : l.length = 3) :
    QB (w.setCell ⟨b, 6, none⟩ (.slice (some ⟨g, 0, none⟩) 3 3)) b { r with votes := l } A cap g gn gm := by
  have ho : ∀ k T, Kind w k T → T ≠ 67 → (w.setCell ⟨b, 6, none⟩ (.slice (some ⟨g, 0, none⟩) 3 3)).heap[k]? = w.heap[k]? := fun k T hk hT => other_blk (hk.ne h.kind hT)
  refine ⟨?_, ?_, ?_, ?_, ?_, h.nm, hl, h.nN, h.mN⟩
  · exact set_blk h.blk 6 _
  · exact own_same h.own fun k hk => ho k 55 (own_kind h.own hk) (by decide)
  · rw [ho g 4 ⟨_, _, hg⟩ (by decide)]; exact hg
  · rw [ho gn 3 h.kn (by decide)]; exact h.no
  · rw [ho gm 3 h.km (by decide)]; exact h.mo

theorem mk64 (w : World) : (Instr.makeSlice 64 (.int .i64 3) (.int .i64 3)).run Try.prog w = .ok (.slice (some ⟨w.heap.size, 0, none⟩) 3 3) (w.alloc (.cells #[.bool false, .bool false, .bool false] 4)) := by kernel_rfl
theorem mk65 (w : World) : (Instr.makeSlice 65 (.int .i64 3) (.int .i64 3)).run Try.prog w = .ok (.slice (some ⟨w.heap.size, 0, none⟩) 3 3) (w.alloc (.cells #[.int .i64 0, .int .i64 0, .int .i64 0] 3)) := by kernel_rfl

set_option maxRecDepth 10000 in
set_option maxHeartbeats 800000 in
theorem qtick_ask (h : QOk w b r A cap gv gn gm) (hr : r.role ≠ 2) (ht : r.hard.term ≠ 1099511627776) : Calls Try.prog 25 #[.pointer (some ⟨b, 0, none⟩)] w (AfterQ w b A gv gn gm (M.tick r).1 (M.tick r).2) := by
  obtain ⟨c0, c1, c2, c3, c4, c5, c6, _⟩ := h.cells
  have hb := h.lt
  have hr' : (r.role == 2) = false := by rw [beq_eq_false_iff_ne]; exact hr
  have ht' : (r.hard.term == 1099511627776) = false := by rw [beq_eq_false_iff_ne]; exact ht
  have hf := h.free
  have f1 := hf 1
  have f2 := hf 2
  have f4 := hf 4
  have f6 := hf 6
  clear hf
  obtain ⟨id, hid⟩ := Int.eq_ofNat_of_zero_le h.wf.id0
  have hid3 : id < 3 := by have := h.wf.id2; omega
  have hid3' : (id : Int) < 3 := by omega
  have t0 := h.wf.term0
  have t1 := h.wf.termM
  have hlen := h.wf.len
  rw [hid] at c0
  have HH := Lib.hid h
  have HI := Lib.hid hid
  have HT : Hid (M.tick r = ({ r with hard := ⟨r.hard.term + 1, r.id⟩, role := 1, votes := [false, false, false].set r.id.toNat true }, { M.noOut with save := true, hard := ⟨r.hard.term + 1, r.id⟩, send := (M.others r.id).map (M.askOf { r with hard := ⟨r.hard.term + 1, r.id⟩, role := 1, votes := [false, false, false].set r.id.toNat true }) })) := by
    show M.tick r = _
    unfold M.tick
    rw [if_neg hr, if_neg ht]
  have HLT : Hid (r.hard.term + 1 ≤ 1099511627776) := by show _ ≤ _; omega
  clear h hr ht hid
  have hmk := mk64
  go_enter Try.func25, Try.ntmps25
  go_upto_region 5 with fail
  go_region
  all_goals go_upto_region 8 with fail
  refine wp_world (fun W => QB W b { r with hard := ⟨r.hard.term + 1, id⟩, role := 1, votes := [false, false, false] } A cap (w.heap.size + 1) gn gm ∧ Fr (QS b A gv gn gm) w W ∧ W.heap.size = w.heap.size + 2 ∧
      W.heap[w.heap.size]? = some (.cells #[.bool false, .int .i64 0, .int .i64 0, .int .i64 0, .slice none 0 0, .slice none 0 0] 45)) ⟨?_, ?_, by simp, ?_⟩ ?_
  · have h3 := (((HH.out.toQB.putTerm (r.hard.term + 1)).putVote id).putRole 1)
    have h5 := (h3.alloc (.cells #[.bool false, .int .i64 0, .int .i64 0, .int .i64 0, .slice none 0 0, .slice none 0 0] 45)).alloc (.cells #[.bool false, .bool false, .bool false] 4)
    have h6 := h5.putBox (w.heap.size + 1) [false, false, false] (by have := heap_alloc2_new (((w.setCell ⟨b, 1, none⟩ (.int .i64 (r.hard.term + 1))).setCell ⟨b, 2, none⟩ (.int .i64 id)).setCell ⟨b, 4, none⟩ (.int .i64 1)) (.cells #[.bool false, .int .i64 0, .int .i64 0, .int .i64 0, .slice none 0 0, .slice none 0 0] 45) (.cells #[.bool false, .bool false, .bool false] 4); simp only [World.size_setCell] at this; exact this) rfl
    rw [World.setCell_alloc_past _ _ _ _ (by simp; omega), World.setCell_alloc_past _ _ _ _ (by simp; omega)] at h6
    exact h6.drew
  · exact ((((((Fr.refl (QS b A gv gn gm) w).setCell (p := ⟨b, 1, none⟩) (.inl (.inl rfl)) _).setCell (p := ⟨b, 2, none⟩) (.inl (.inl rfl)) _).setCell (p := ⟨b, 4, none⟩) (.inl (.inl rfl)) _).setCell (p := ⟨b, 6, none⟩) (.inl (.inl rfl)) _).alloc _).alloc _ |>.drew
  · have := heap_alloc_new ((((w.setCell ⟨b, 1, none⟩ (.int .i64 (r.hard.term + 1))).setCell ⟨b, 2, none⟩ (.int .i64 id)).setCell ⟨b, 4, none⟩ (.int .i64 1)).setCell ⟨b, 6, none⟩ (.slice (some ⟨w.heap.size + 1, 0, none⟩) 3 3)) (.cells #[.bool false, .int .i64 0, .int .i64 0, .int .i64 0, .slice none 0 0, .slice none 0 0] 45)
    simp only [World.size_setCell] at this
    refine (Below.heap_alloc _ _ _ (by simp)).trans this
  rintro W ⟨hB, hfr, hsz, hz⟩
  clear c0 c1 c2 c3 c4 c5 c6 f1 f2 f4 f6 t0 t1 hmk
  obtain ⟨c0, c1, c2, c3, c4, c5, c6, _⟩ := hB.cells
  have v6 := hB.votes id hid3
  have f6 := hB.freev id
  have hbW := hB.lt
  have hgvW := lt_blk hB.vo
  have HC0 := Lib.hid HI.out
  rw [HI.out] at c0
  have HB := Lib.hid hB
  have HFR := Lib.hid hfr
  have HZ := Lib.hid hz
  have HSZ := Lib.hid hsz
  clear hB hfr hz hsz
  go_region
  all_goals go_upto_region 10 with fail
  have hrid : r.id.toNat = id := by rw [HI.out]; rfl
  have hwf2 := HH.out.wf.ask (by have := HLT.out; omega) ([false, false, false].set r.id.toNat true) (by simp)
  have hT := HT.out
  generalize hr2 : ({ r with hard := ⟨r.hard.term + 1, r.id⟩, role := 1, votes := [false, false, false].set r.id.toNat true } : Rep) = r2 at hT hwf2
  have HR2H : Hid (r2.hard = ⟨r.hard.term + 1, r.id⟩) := by show r2.hard = _; rw [← hr2]
  have hr2i : r2.id = id := by rw [← hr2]; exact HI.out
  have hr2l : r2.log = r.log := by rw [← hr2]
  refine wp_world (fun X => QOk X b r2 A cap (w.heap.size + 1) gn gm ∧ Fr (QS b A gv gn gm) w X ∧ X.heap[W.heap.size]? = some (.cells #[.bool true, .int .i64 r2.hard.term, .int .i64 r2.hard.vote, .int .i64 0, .slice none 0 0, .slice none 0 0] 45) ∧
      X.heap[w.heap.size]? = some (.cells #[.bool false, .int .i64 0, .int .i64 0, .int .i64 0, .slice none 0 0, .slice none 0 0] 45)) ⟨⟨?_, hwf2⟩, ?_, ?_, ?_⟩ ?_
  · have := (HB.out.putVotes id true).alloc (.cells #[.bool true, .int .i64 (r.hard.term + 1), .int .i64 id, .int .i64 0, .slice none 0 0, .slice none 0 0] 45)
    rw [← hr2, hrid]
    rw [HI.out] at this ⊢
    exact this.drew
  · exact ((HFR.out.setCell (p := ⟨w.heap.size + 1, id, none⟩) (.inr (Nat.le_succ _)) _).alloc _).drew
  · have := heap_alloc_new (W.setCell ⟨w.heap.size + 1, id, none⟩ (.bool true)) (.cells #[.bool true, .int .i64 (r.hard.term + 1), .int .i64 id, .int .i64 0, .slice none 0 0, .slice none 0 0] 45)
    simp only [World.size_setCell] at this
    rw [← hr2, HI.out]
    exact this
  · refine (Below.heap_alloc _ _ _ (by have := HSZ.out; simp; omega)).trans ((other_blk ?_).trans HZ.out)
    show w.heap.size ≠ w.heap.size + 1
    omega
  rintro X ⟨h2, hfr2, hzo, hz2⟩
  clear HB HFR HZ HT hwf2 c0 c1 c2 c3 c4 c5 c6 f6 v6 hr2 hgvW
  have hbX := h2.lt
  have HFR1 := Lib.hid hfr2
  have HZO1 := Lib.hid hzo
  have HZ1 := Lib.hid hz2
  have H3 := Lib.hid h2
  have HI2 := Lib.hid hr2i
  have HL2 := Lib.hid hr2l
  have hoX := lt_blk hzo
  have hsX := lt_blk hz2
  have HT2 := Lib.hid hT
  clear hr2i hr2l hT h2 hfr2 hzo hz2
  go_wp2_with fail
  go_loopw [4] (fun i wr => ∃ (k : Nat) (sA : Option Addr) (sc : Nat), k ≤ 3 ∧ i = .int .i64 k ∧ QOk wr b r2 A cap (w.heap.size + 1) gn gm ∧ Fr (QS b A gv gn gm) w wr ∧
      wr.heap[W.heap.size]? = some (.cells #[.bool true, .int .i64 r2.hard.term, .int .i64 r2.hard.vote, .int .i64 0, .slice none 0 0, .slice sA (oix id k) sc] 45) ∧
      wr.heap[w.heap.size]? = some (.cells #[.bool false, .int .i64 0, .int .i64 0, .int .i64 0, .slice none 0 0, .slice none 0 0] 45) ∧
      MsgsOk wr X.heap.size (.slice sA (oix id k) sc) (((M.others id).take (oix id k)).map (M.askOf r2)) ∧ X.heap.size ≤ wr.heap.size) (fun i _ => 3 - (intOf i).toNat)
  case atStart => exact ⟨0, none, 0, by omega, rfl, H3.out, HFR1.out, HZO1.out, HZ1.out, MsgsOk.nil _ _, Nat.le_refl _⟩
  case round =>
    clear H3 HFR1 HZO1 HZ1
    obtain ⟨k, sA, sc, hk, rfl, h2, hfr2, hzo, hz2, hms, hXr⟩ := hrel
    have hbr := h2.lt
    have y0 := h2.cells.1
    have y3 := h2.cells.2.2.2.1
    rw [HI2.out] at y0
    have H2 := Lib.hid h2
    have HFR2 := Lib.hid hfr2
    have HZO2 := Lib.hid hzo
    have HZ2 := Lib.hid hz2
    have HMS := Lib.hid hms
    by_cases hlt : k < 3
    · by_cases hne : k = id
      · subst hne
        have hb0 : ((k : Int) != (k : Int)) = false := by simp
        clear hms hfr2 hzo hz2 h2
        go_wp2_with fail
        go_roundw
        case rel =>
          refine ⟨k + 1, sA, sc, by omega, by go_num, H2.out, HFR2.out, ?_, HZ2.out, ?_, hXr⟩
          · rw [oix_self]; exact HZO2.out
          · rw [oix_self]; exact HMS.out
        case measure => simp [intOf]; omega
      · have hb0 : ((k : Int) != (id : Int)) = true := by simp; omega
        have HNE := Lib.hid hne
        obtain ⟨ps, hps, hso, hpr⟩ := hms
        have hlen2 : ps.length = oix id k := by
          have := congrArg List.length hps
          have h2 := oix_le hid3 hk
          simp only [List.length_map, List.length_take, others_len] at this
          omega
        rw [← hlen2] at hso
        have hl3 : ps.length < 3 := by rw [hlen2]; have := oix_le hid3 hk; omega
        have HLP := Lib.hid hlen2
        clear hfr2 hzo hz2 hne hlen2
        go_wp2_with fail
        refine (qmessage_calls h2 0 k).mono ?_
        rintro e w2 ⟨rfl, hb2⟩
        have h4 := h2.below hb2 (Nat.le_refl _)
        have hb4 := h4.lt
        have d3 := h4.cells.2.2.2.1
        have hn0 : (0 : Int) ≤ (r2.log.length : Int) := by omega
        have hn1 : (r2.log.length : Int) ≤ r2.log.length := by omega
        have hb2s := hb2.size
        have hWlt : W.heap.size < w2.heap.size := by omega
        have hzo4 := (hb2.block _ (by omega)).trans HZO2.out
        have o5 : w2.cell? ⟨W.heap.size, 5, none⟩ = some (.slice sA (oix id k) sc) := cell_blk (cs := [.bool true, .int .i64 r2.hard.term, .int .i64 r2.hard.vote, .int .i64 0, .slice none 0 0, .slice sA (oix id k) sc]) hzo4 5
        rw [← HLP.out] at o5
        have hX2 : Below wr.heap.size wr ((w2.alloc (.cells (msgCells (M.askOf r2 k) (.slice none 0 0)).toArray 37)).alloc (.cells (msgCells (M.askOf r2 k) (.slice none 0 0)).toArray 37)) :=
          ((hb2.alloc hb2s _).alloc (by simp; omega) _)
        have HX2 := Lib.hid hX2
        have HO3 := Lib.hid (own_below hso hX2 (Nat.le_refl _))
        have HS : Hid (Sl ((w2.alloc (.cells (msgCells (M.askOf r2 k) (.slice none 0 0)).toArray 37)).alloc (.cells (msgCells (M.askOf r2 k) (.slice none 0 0)).toArray 37)) (w2.heap.size + 1 ≤ ·) 9 (.slice (some ⟨w2.heap.size + 1, 0, none⟩) 1 1) 1 (msgsCells [(M.askOf r2 k, .slice none 0 0)])) := by
          have := sl_one_msg (w2.alloc (.cells (msgCells (M.askOf r2 k) (.slice none 0 0)).toArray 37)) (M.askOf r2 k) (.slice none 0 0)
          have h9 : (w2.alloc (.cells (msgCells (M.askOf r2 k) (.slice none 0 0)).toArray 37)).heap.size = w2.heap.size + 1 := by simp
          rw [h9] at this
          exact this
        have HSO := Lib.hid hso
        have HPR := Lib.hid hpr
        have HPS := Lib.hid hps
        have H4 := Lib.hid h4
        have HZO5 : Hid (((w2.alloc (.cells (msgCells (M.askOf r2 k) (.slice none 0 0)).toArray 37)).alloc (.cells (msgCells (M.askOf r2 k) (.slice none 0 0)).toArray 37)).heap[W.heap.size]? = some (.cells [.bool true, .int .i64 r2.hard.term, .int .i64 r2.hard.vote, .int .i64 0, .slice none 0 0, .slice sA (oix id k) sc].toArray 45)) :=
          (Below.heap_alloc _ _ _ (by simp; omega)).trans ((Below.heap_alloc _ _ _ hWlt).trans hzo4)
        clear hX2 hso hpr hps hzo4 hb2 h2 h4
        unfold msgVal msgCells M.message
        go_wp2_with (first | (go_at_call 53; refine (qterm_calls (r := r2) (H4.out.alloc _) (r2.log.length : Int) hn0 hn1).mono ?_; rintro e w3 ⟨rfl, rfl⟩) | (at_builtin; refine wpList_append_sl _ rfl _ _ 27 rfl X.heap.size 37 _ 9 88 Try.underlying27 info37 rfl (by decide) _ ps.length (msgsCells ps) rfl HO3.out _ _ 1 _ rfl HS.out ?_ ?_ ?_ ?_ ?_; rotate_left 4; intro v' w3 hown hg hat; obtain ⟨vA, vc, rfl⟩ := own_form hown; have hzo6 := grown_blk hg HO3.out HZO5.out (by decide); have p5 := cell_blk hzo6 5; have pf5 := free_blk hzo6 5; simp only [List.getElem?_cons_succ, List.getElem?_cons_zero] at p5; have HZO6 := Lib.hid hzo6; have HOWN := Lib.hid hown; have HGR := Lib.hid hg; have HO4 := Lib.hid HO3.out; clear HO3 HS HZO5 hzo6 hown hg hat))
        · have hWs := HSZ.out
          have hso := HSO.out
          have hgb : ∀ q, (Value.slice sA ps.length sc).ownBlock = some q → X.heap.size ≤ q ∧ q < wr.heap.size := fun q hq => own_lt hso hq
          have hgr' : ((w2.alloc (.cells (msgCells (M.askOf r2 k) (.slice none 0 0)).toArray 37)).alloc (.cells (msgCells (M.askOf r2 k) (.slice none 0 0)).toArray 37)).grownBy w3 (Value.slice sA ps.length sc).ownBlock := HGR.out
          have hfrY : Fr (fun q => (Value.slice sA ps.length sc).ownBlock = some q ∨ q = W.heap.size) wr (w3.setCell ⟨W.heap.size, 5, none⟩ (.slice vA (ps.length + 1) vc)) :=
            ((Fr.of_below HX2.out).grown hgr' (fun q hq => .inl (.inl hq))).setCell (p := ⟨W.heap.size, 5, none⟩) (.inl (.inr rfl)) _
          have hox : oix id (k + 1) = ps.length + 1 := by rw [(oix_at hid3 hlt HNE.out).2.2, HLP.out]
          go_roundw
          case rel =>
            refine ⟨k + 1, vA, vc, by omega, by go_num, H2.out.fr hfrY ?_, HFR2.out.trans2 hfrY ?_, ?_, ?_, ⟨ps ++ [(M.askOf r2 k, .slice none 0 0)], ?_, ?_, ?_⟩, Nat.le_trans hXr hfrY.size⟩
            · rintro q hq (hq' | rfl)
              · exact H2.out.not45 hq (T := 37) ⟨by decide, by decide, by decide, by decide⟩ (own_kind hso hq')
              · exact H2.out.not45 hq (T := 45) ⟨by decide, by decide, by decide, by decide⟩ ⟨_, _, HZO2.out⟩
            · rintro q (hq | hq)
              · have := hgb q hq; right; omega
              · right; omega
            · rw [hox]; exact set_blk HZO6.out 5 _
            · rw [hfrY.block w.heap.size (by omega) (by rintro (hq | hq)
                                                        · have := hgb _ hq; omega
                                                        · omega)]
              exact HZ2.out
            · rw [others_take hid3 hlt HNE.out, List.map_append, List.map_append, HPS.out]
              rfl
            · rw [msgsCells_append, List.length_append, hox]
              exact own_fr HOWN.out (fr_setCell _ _ _) (fun q hq e => (own_kind HOWN.out hq).ne ⟨_, _, HZO6.out⟩ (by decide) e)
            · intro p hp
              rcases List.mem_append.1 hp with hp | hp
              · exact own_fr (HPR.out p hp) hfrY (fun q hq hq' => by
                  rcases hq' with hq' | hq'
                  · exact own_ne (HPR.out p hp) hso (by decide) hq hq'
                  · exact (own_kind (HPR.out p hp) hq).ne ⟨_, _, HZO2.out⟩ (by decide) hq')
              · obtain rfl : p = (M.askOf r2 k, .slice none 0 0) := by simpa using hp
                exact World.ownsRow_nil _ _ _ _
          case measure => simp [intOf]; omega
        · exact msgsCells_one _ (fun p hp => by obtain rfl : p = (M.askOf r2 k, .slice none 0 0) := by simpa using hp
                                                rfl)
        · simp only [maxLen]; omega
        · omega
        · show X.heap.size ≤ ((w2.alloc _).alloc _).heap.size
          simp; omega
    · obtain rfl : k = 3 := by omega
      rw [oix_end hid3] at hzo hms
      have x0 := cell_blk (cs := [.bool true, .int .i64 r2.hard.term, .int .i64 r2.hard.vote, .int .i64 0, .slice none 0 0, .slice sA 2 sc]) hzo 0
      have x1 := cell_blk (cs := [.bool true, .int .i64 r2.hard.term, .int .i64 r2.hard.vote, .int .i64 0, .slice none 0 0, .slice sA 2 sc]) hzo 1
      have x2 := cell_blk (cs := [.bool true, .int .i64 r2.hard.term, .int .i64 r2.hard.vote, .int .i64 0, .slice none 0 0, .slice sA 2 sc]) hzo 2
      have x3 := cell_blk (cs := [.bool true, .int .i64 r2.hard.term, .int .i64 r2.hard.vote, .int .i64 0, .slice none 0 0, .slice sA 2 sc]) hzo 3
      have x4 := cell_blk (cs := [.bool true, .int .i64 r2.hard.term, .int .i64 r2.hard.vote, .int .i64 0, .slice none 0 0, .slice sA 2 sc]) hzo 4
      have x5 := cell_blk (cs := [.bool true, .int .i64 r2.hard.term, .int .i64 r2.hard.vote, .int .i64 0, .slice none 0 0, .slice sA 2 sc]) hzo 5
      simp only [List.getElem?_cons_succ, List.getElem?_cons_zero] at x0 x1 x2 x3 x4 x5
      have HMS3 := Lib.hid hms
      clear hms hfr2 hzo hz2 h2 HMS HZO2
      go_wp2_with (refine wpList_store_list rfl 45 (.tmp 2) (.tmp 89) rfl w.heap.size _ rfl rfl 45 _ HZ2.out 6 size45 rfl rfl rfl ?_)
      have hWs := HSZ.out
      refine bodyPost_ret (v := _) (results_cell_row rfl _ _ w.heap.size 45 _ (0, 0) _ rfl (setRow_heap _ _ _ _ _ _ HZ2.out) Try.underlying45 rfl size45) rfl ?_
      rw [HT2.out]
      have hfin := afterq_setRow (w := w) (gv := gv) (rv := .slice none 0 0) (sv := .slice sA 2 sc) (o := { M.noOut with save := true, hard := ⟨r.hard.term + 1, r.id⟩, send := (M.others r.id).map (M.askOf r2) }) H2.out (fun k hk => by
        rcases hk with q | q | q | q | q
        · exact .inl (.inl q)
        · exact .inl (.inr (.inl q))
        · right; omega
        · exact .inl (.inr (.inr (.inr (.inl q))))
        · exact .inl (.inr (.inr (.inr (.inr q))))) ⟨World.ownsRow_nil _ _ _ _, by
          have := HMS3.out
          rw [List.take_of_length_le (by rw [others_len]; omega)] at this
          show MsgsOk wr w.heap.size _ ((M.others r.id).map (M.askOf r2))
          rw [HI.out]
          exact this.mono (by omega)⟩ HFR2.out ⟨_, _, HZ2.out⟩ (Nat.le_refl _) #[.bool true, .int .i64 r2.hard.term, .int .i64 r2.hard.vote, .int .i64 0, .slice none 0 0, .slice sA 2 sc]
      have he : outVal { M.noOut with save := true, hard := ⟨r.hard.term + 1, r.id⟩, send := (M.others r.id).map (M.askOf r2) } (.slice none 0 0) (.slice sA 2 sc) = .agg #[.bool true, .int .i64 r2.hard.term, .int .i64 r2.hard.vote, .int .i64 0, .slice none 0 0, .slice sA 2 sc] := by
        rw [HR2H.out]; rfl
      rw [he] at hfin
      exact hfin

theorem qtick_calls (h : QOk w b r A cap gv gn gm) : Calls Try.prog 25 #[.pointer (some ⟨b, 0, none⟩)] w (AfterQ w b A gv gn gm (M.tick r).1 (M.tick r).2) := by
  by_cases hr : r.role = 2
  · have : M.tick r = (r, { M.noOut with send := M.all r }) := by unfold M.tick; rw [if_pos hr]
    rw [this]
    exact qtick_lead h hr
  · by_cases ht : r.hard.term = 1099511627776
    · have : M.tick r = (r, M.noOut) := by unfold M.tick; rw [if_neg hr, if_pos ht]
      rw [this]
      exact qtick_max h hr ht
    · exact qtick_ask h hr ht
end
end Go.Proofs.Ytodmihpmbecncaa
