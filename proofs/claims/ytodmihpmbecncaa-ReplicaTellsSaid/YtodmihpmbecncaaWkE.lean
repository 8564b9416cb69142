/-
  The walk of replica.Tick: it computes what the model says.
-/
import Derived.Test.YtodmihpmbecncaaWkD
namespace Go.Proofs.Ytodmihpmbecncaa
open Go.RowKit

section
variable {w : World} {b : Nat} {r : Rep} {A : Option Addr} {cap : Nat}

/-- The log's row is the old one, or a new one that nothing handed back lies in. -/
def FreshRow (w w' : World) (A A' : Option Addr) (o : Out) (rv sv : Value) : Prop :=
  A' = A ∨ ∀ ad, A' = some ad → w.heap.size ≤ ad.block ∧ rv.ownBlock ≠ some ad.block ∧ MsgsOk w' (ad.block + 1) sv o.send
/-- What a call on a replica leaves: the new replica, what is handed back, and that nothing else has changed. -/
def After (w : World) (b : Nat) (A : Option Addr) (r' : Rep) (o : Out) (e : Ending) (w' : World) : Prop :=
  ∃ A' cap' rv sv, e = .returned (outVal o rv sv) ∧ RepOk w' b r' A' cap' ∧ FreshRow w w' A A' o rv sv ∧ OutOk w' w.heap.size o rv sv ∧ Fr (RepS b A) w w'

theorem tick_lead (h : RepOk w b r A cap) (hr : r.role = 2) : Calls Try.prog 13 #[.pointer (some ⟨b, 0, none⟩)] w (After w b A r { M.noOut with send := M.all r }) := by
  obtain ⟨_, _, _, _, c4, _⟩ := h.cells
  rw [hr] at c4
  have hb := h.lt
  have HH := Lib.hid h
  have HN := Lib.hid (h.wf.nexts hr)
  clear h hr
  go_enter Try.func13, Try.ntmps13
  go_wp2_with fail
  refine (all_calls (HH.out.alloc _) HN.out).mono ?_
  rintro e w1 ⟨sv, rfl, hm, hb1⟩
  obtain ⟨ps, hps, ho, hpr⟩ := hm
  obtain ⟨sA, sc, rfl⟩ := own_form ho
  have hz : w1.heap[w.heap.size]? = some (.cells #[.bool false, .int .i64 0, .int .i64 0, .int .i64 0, .slice none 0 0, .slice none 0 0] 45) := (hb1.block _ (by simp)).trans (heap_alloc_new w _)
  have HZ := Lib.hid hz
  have HB1 := Lib.hid hb1
  have HM : Hid (MsgsOk w1 (w.heap.size + 1) (.slice sA ps.length sc) (M.all r)) := ⟨ps, hps, by simpa using ho, by simpa using hpr⟩
  clear hz hb1 hps ho hpr
  go_wp2_with (refine wpList_store_list rfl 45 (.tmp 2) (.tmp 14) rfl w.heap.size _ rfl rfl 45 _ HZ.out 6 size45 rfl rfl rfl ?_)
  refine bodyPost_ret (v := _) (results_cell_row rfl _ _ w.heap.size 45 _ (0, 0) _ rfl (setRow_heap _ _ _ _ _ _ HZ.out) Try.underlying45 rfl size45) rfl ⟨A, cap, .slice none 0 0, .slice sA ps.length sc, rfl, ?_, .inl rfl, ?_, ?_⟩
  · refine ((HH.out.alloc _).below HB1.out (Nat.le_refl _)).fr (S := fun k => k = w.heap.size) (fr_setRow _ _ _) ?_
    rintro k (rfl | ⟨ad, h1, h2⟩) hk
    · omega
    · have := HH.out.rowLt ad h1; omega
  · exact ⟨World.ownsRow_nil _ _ _ _, (HM.out.fr (S := fun k => k = w.heap.size) (fr_setRow _ _ _) (fun k hk _ e => by omega)).mono (by omega)⟩
  · exact Fr.of_below (below_setRow ((((Below.refl _ _).alloc (Nat.le_refl _) _)).trans (HB1.out.mono (by simp))) (Nat.le_refl _) _)

theorem tick_max (h : RepOk w b r A cap) (hr : r.role ≠ 2) (ht : r.hard.term = 1099511627776) : Calls Try.prog 13 #[.pointer (some ⟨b, 0, none⟩)] w (After w b A r M.noOut) := by
  obtain ⟨_, c1, _, _, c4, _⟩ := h.cells
  rw [ht] at c1
  have hb := h.lt
  have hr' : (r.role == 2) = false := by rw [beq_eq_false_iff_ne]; exact hr
  have HH := Lib.hid h
  clear h hr ht
  go_enter Try.func13, Try.ntmps13
  go_wp2
  refine bodyPost_ret (v := _) (results_cell_row rfl _ _ w.heap.size 45 _ (0, 0) _ rfl (heap_alloc_new w _) Try.underlying45 rfl size45) rfl ⟨A, cap, .slice none 0 0, .slice none 0 0, rfl, HH.out.alloc _, .inl rfl, OutOk.nil _ _, (Fr.refl _ _).alloc _⟩


theorem grown_blk {w w3 : World} {base e sz n : Nat} {v : Value} {xs : List Value} (hg : w.grownBy w3 v.ownBlock) (hown : w.ownsRow base e sz v n xs) {g : Nat} {T : TypeId} {cs : Array Value} {fr : Nat × Nat}
    (hblk : w.heap[g]? = some (.cells cs T fr)) (hT : T ≠ e) : w3.heap[g]? = some (.cells cs T fr) := by
  rw [hg.block g (lt_blk hblk) (fun hk => (Kind.ne ⟨cs, fr, hblk⟩ (own_kind hown hk.symm) hT) rfl)]
  exact hblk

theorem list3 {α : Type} (l : List α) (h : l.length = 3) (x : α) : ((l.set 0 x).set 1 x).set 2 x = [x, x, x] := by
  match l, h with
  | [a, b, c], _ => rfl

set_option maxHeartbeats 800000 in
theorem tick_ask (h : RepOk w b r A cap) (hr : r.role ≠ 2) (ht : r.hard.term ≠ 1099511627776) : Calls Try.prog 13 #[.pointer (some ⟨b, 0, none⟩)] w (After w b A (M.tick r).1 (M.tick r).2) := by
  obtain ⟨c0, c1, c2, c3, c4, _⟩ := h.cells
  have hb := h.lt
  have hr' : (r.role == 2) = false := by rw [beq_eq_false_iff_ne]; exact hr
  have ht' : (r.hard.term == 1099511627776) = false := by rw [beq_eq_false_iff_ne]; exact ht
  have hf := h.free
  have f1 := hf 1
  have f2 := hf 2
  have f4 := hf 4
  have hv0 := h.votes 0 (by omega)
  have hv1 := h.votes 1 (by omega)
  have hv2 := h.votes 2 (by omega)
  have f6 := hf 6
  have f7 := hf 7
  have f8 := hf 8
  clear hf
  obtain ⟨id, hid⟩ := Int.eq_ofNat_of_zero_le h.wf.id0
  have hid3 : id < 3 := by have := h.wf.id2; omega
  have hid3' : (id : Int) < 3 := by omega
  have t0 := h.wf.term0
  have t1 := h.wf.termM
  have hlen := h.wf.len
  rw [hid] at c0
  have HH := Lib.hid h
  have HI := Lib.hid hid
  have HT : Hid (M.tick r = ({ r with hard := ⟨r.hard.term + 1, r.id⟩, role := 1, votes := [false, false, false].set r.id.toNat true }, { M.noOut with save := true, hard := ⟨r.hard.term + 1, r.id⟩, send := (M.others r.id).map (M.askOf { r with hard := ⟨r.hard.term + 1, r.id⟩, role := 1, votes := [false, false, false].set r.id.toNat true }) })) := by
    show M.tick r = _
    unfold M.tick
    rw [if_neg hr, if_neg ht]
  have HLT : Hid (r.hard.term + 1 ≤ 1099511627776) := by show _ ≤ _; omega
  clear h hr ht hid
  go_enter Try.func13, Try.ntmps13
  go_wp2
  go_region
  all_goals go_wp2
  refine wp_world (fun W => RepB W b { r with hard := ⟨r.hard.term + 1, id⟩, role := 1, votes := [false, false, false] } A cap ∧ Fr (RepS b A) w W ∧ W.heap.size = w.heap.size + 1 ∧
      W.heap[w.heap.size]? = some (.cells #[.bool false, .int .i64 0, .int .i64 0, .int .i64 0, .slice none 0 0, .slice none 0 0] 45)) ⟨?_, ?_, by simp, ?_⟩ ?_
  · have := ((((((HH.out.toRepB.putTerm (r.hard.term + 1)).putVote id).putRole 1).putVotes 0 (by omega) false).putVotes 1 (by omega) false).putVotes 2 (by omega) false).alloc (.cells #[.bool false, .int .i64 0, .int .i64 0, .int .i64 0, .slice none 0 0, .slice none 0 0] 45)
    simp only [list3 _ HH.out.vN] at this
    exact this.drew
  · exact (((((((Fr.refl (RepS b A) w).setCell (p := ⟨b, 1, none⟩) (.inl (.inl rfl)) _).setCell (p := ⟨b, 2, none⟩) (.inl (.inl rfl)) _).setCell (p := ⟨b, 4, none⟩) (.inl (.inl rfl)) _).setCell (p := ⟨b, 6, none⟩) (.inl (.inl rfl)) _).setCell (p := ⟨b, 7, none⟩) (.inl (.inl rfl)) _).setCell (p := ⟨b, 8, none⟩) (.inl (.inl rfl)) _).alloc _ |>.drew
  · have := heap_alloc_new ((((((w.setCell ⟨b, 1, none⟩ (.int .i64 (r.hard.term + 1))).setCell ⟨b, 2, none⟩ (.int .i64 id)).setCell ⟨b, 4, none⟩ (.int .i64 1)).setCell ⟨b, 6, none⟩ (.bool false)).setCell ⟨b, 7, none⟩ (.bool false)).setCell ⟨b, 8, none⟩ (.bool false)) (.cells #[.bool false, .int .i64 0, .int .i64 0, .int .i64 0, .slice none 0 0, .slice none 0 0] 45)
    simp only [World.size_setCell] at this
    exact this
  rintro W ⟨hB, hfr, hsz, hz⟩
  clear c0 c1 c2 c3 c4 f1 f2 f4 f6 f7 f8 hv0 hv1 hv2 t0 t1
  obtain ⟨c0, c1, c2, c3, c4, _⟩ := hB.cells
  have f6 := hB.free (6 + id)
  have v6 := hB.votes id hid3
  have hbW := hB.lt
  have HC0 := Lib.hid HI.out
  rw [HI.out] at c0
  have HB := Lib.hid hB
  have HFR := Lib.hid hfr
  have HZ := Lib.hid hz
  have HSZ := Lib.hid hsz
  clear hB hfr hz hsz
  go_region
  all_goals go_wp2_with fail
  have hrid : r.id.toNat = id := by rw [HI.out]; rfl
  have hwf2 := HH.out.wf.ask (by have := HLT.out; omega) ([false, false, false].set r.id.toNat true) (by simp)
  have hT := HT.out
  generalize hr2 : ({ r with hard := ⟨r.hard.term + 1, r.id⟩, role := 1, votes := [false, false, false].set r.id.toNat true } : Rep) = r2 at hT hwf2
  have hr2l : r2.log = r.log := by rw [← hr2]
  have HR2H : Hid (r2.hard = ⟨r.hard.term + 1, r.id⟩) := by show r2.hard = _; rw [← hr2]
  have hr2i : r2.id = id := by rw [← hr2]; exact HI.out
  refine calls_world (fun X => RepOk X b r2 A cap ∧ Fr (RepS b A) w X ∧ X.heap[W.heap.size]? = some (.cells #[.bool true, .int .i64 r2.hard.term, .int .i64 r2.hard.vote, .int .i64 0, .slice none 0 0, .slice none 0 0] 45) ∧
      X.heap[w.heap.size]? = some (.cells #[.bool false, .int .i64 0, .int .i64 0, .int .i64 0, .slice none 0 0, .slice none 0 0] 45)) ⟨⟨?_, hwf2⟩, ?_, ?_, ?_⟩ ?_
  · have := (HB.out.putVotes id hid3 true).alloc (.cells #[.bool true, .int .i64 (r.hard.term + 1), .int .i64 id, .int .i64 0, .slice none 0 0, .slice none 0 0] 45)
    rw [← hr2, hrid]
    rw [HI.out] at this ⊢
    exact this.drew
  · exact ((HFR.out.setCell (p := ⟨b, 6 + id, none⟩) (.inl (.inl rfl)) _).alloc _).drew
  · have := heap_alloc_new (W.setCell ⟨b, 6 + id, none⟩ (.bool true)) (.cells #[.bool true, .int .i64 (r.hard.term + 1), .int .i64 id, .int .i64 0, .slice none 0 0, .slice none 0 0] 45)
    simp only [World.size_setCell] at this
    rw [← hr2, HI.out]
    exact this
  · refine (Below.heap_alloc _ _ _ (by have := HSZ.out; simp; omega)).trans ((other_blk ?_).trans HZ.out)
    show w.heap.size ≠ b
    omega
  rintro X ⟨h2, hfr2, hzo, hz2⟩
  clear HB HFR HZ HT hwf2 c0 c1 c2 c3 c4 f6 v6 hr2
  have c0 := h2.cells.1
  rw [hr2i] at c0
  refine (others_calls id b X hid3 h2.lt c0).mono ?_
  rintro e w1 ⟨g, rfl, hb1, hg0, hg1, hKg, hc⟩
  have h3 := h2.below hb1 (Nat.le_refl _)
  have hbX := h2.lt
  have hlX : ∀ ad, A = some ad → ad.block < X.heap.size := h2.rowLt
  have hzo1 := (hb1.block _ (lt_blk hzo)).trans hzo
  have hz1 := (hb1.block _ (lt_blk hz2)).trans hz2
  have hfr1 : Fr (RepS b A) w w1 := hfr2.trans2 (S' := fun _ => False) ⟨hb1.os, hb1.tape, hb1.output, hb1.size, fun k hk _ => hb1.block k hk⟩ (fun _ h => h.elim)
  have HG := Lib.hid hc
  have HFR1 := Lib.hid hfr1
  have HZO1 := Lib.hid hzo1
  have HZ1 := Lib.hid hz1
  have H3 := Lib.hid h3
  have HI2 := Lib.hid hr2i
  have HL2 := Lib.hid hr2l
  have hoX := lt_blk hzo
  have hsX := lt_blk hz2
  have hgX : X.heap.size ≤ g := hg0
  have HT2 := Lib.hid hT
  have hb1s := hb1.size
  clear hc hfr1 hzo1 hz1 h3 hr2i hr2l hT h2 hb1 hfr2 hzo hz2 c0
  go_wp2_with fail
  go_loopw [59] (fun i wr => ∃ (k : Nat) (sA : Option Addr) (sc : Nat), k ≤ 2 ∧ i = .int .i64 k ∧ RepOk wr b r2 A cap ∧ Fr (RepS b A) w wr ∧
      wr.heap[W.heap.size]? = some (.cells #[.bool true, .int .i64 r2.hard.term, .int .i64 r2.hard.vote, .int .i64 0, .slice none 0 0, .slice sA k sc] 45) ∧
      wr.heap[w.heap.size]? = some (.cells #[.bool false, .int .i64 0, .int .i64 0, .int .i64 0, .slice none 0 0, .slice none 0 0] 45) ∧
      MsgsOk wr X.heap.size (.slice sA k sc) (((M.others id).take k).map (M.askOf r2)) ∧ X.heap.size ≤ wr.heap.size ∧ g < wr.heap.size ∧ Kind wr g 3 ∧
      (∀ k : Nat, k < 2 → wr.cell? ⟨g, k, none⟩ = some (.int .i64 ((M.others id).getD k 0)))) (fun i _ => 2 - (intOf i).toNat)
  case atStart => exact ⟨0, none, 0, by omega, rfl, H3.out, HFR1.out, HZO1.out, HZ1.out, MsgsOk.nil _ _, hb1s, hg1, hKg, HG.out⟩
  case round =>
    clear H3 HFR1 HZO1 HZ1 HG
    obtain ⟨k, sA, sc, hk, rfl, h2, hfr2, hzo, hz2, hms, hXr, hgr, hKr, hc⟩ := hrel
    have HC := Lib.hid hc
    have H2 := Lib.hid h2
    have HFR2 := Lib.hid hfr2
    have HZO2 := Lib.hid hzo
    have HZ2 := Lib.hid hz2
    have HMS := Lib.hid hms
    by_cases hlt : k < 2
    · have ck := hc k hlt
      obtain ⟨j, hj, hj3⟩ := others_lt id k
      rw [hj] at ck
      have HJ := Lib.hid hj
      clear hc hms hfr2 hj hzo hz2
      go_wp2_with fail
      refine (message_calls h2 0 j).mono ?_
      rintro e w2 ⟨rfl, hb2⟩
      have h4 := h2.below hb2 (Nat.le_refl _)
      have hb4 := h4.lt
      have d3 := h4.cells.2.2.2.1
      have hl4 := h4.rowLt
      have hn0 : (0 : Int) ≤ (r2.log.length : Int) := by omega
      have hn1 : (r2.log.length : Int) ≤ r2.log.length := by omega
      have hb2s := hb2.size
      have hWlt : W.heap.size < w2.heap.size := by omega
      have hzo4 := (hb2.block _ (by omega)).trans HZO2.out
      have o5 : w2.cell? ⟨W.heap.size, 5, none⟩ = some (.slice sA k sc) := cell_blk (cs := [.bool true, .int .i64 r2.hard.term, .int .i64 r2.hard.vote, .int .i64 0, .slice none 0 0, .slice sA k sc]) hzo4 5
      have of5 := free_blk (cs := [.bool true, .int .i64 r2.hard.term, .int .i64 r2.hard.vote, .int .i64 0, .slice none 0 0, .slice sA k sc]) hzo4 5
      have HZO4 := Lib.hid hzo4
      clear hzo4
      have HB2 := Lib.hid hb2
      have H4 := Lib.hid h4
      clear hb2 h2
      go_wp2_with fail
      go_region_held3 (fun w' => RepOk w' b r2 A cap ∧ w'.cell? ⟨b, 3, none⟩ = some (.slice A r2.log.length cap))
        (first | exact ⟨(h4.alloc _).drew, by go_simp⟩ | (go_split_ands; refine ⟨RepOk.far (by assumption) (by show w2.heap.size ≠ b; omega) (fun ad e => by have := hl4 ad e; show ad.block ≠ w2.heap.size; omega) _, ?_⟩; all_goals go_keep))
        ((first | (go_at_call 36; go_split_ands; refine (term_calls (b := b) (r := r2) (A := A) (cap := cap) ?hR (r2.log.length : Int) hn0 hn1).mono ?hK; (case hR => assumption); rintro e w3 ⟨rfl, rfl⟩)))
      obtain ⟨ps, hps, hso, hpr⟩ := HMS.out
      have hlen2 : ps.length = k := by
        have := congrArg List.length hps
        simp only [List.length_map, List.length_take, others_len] at this
        omega
      have hX2 : Below wr.heap.size wr (((w2.alloc (.cells (msgCells (M.askOf r2 j) (.slice none 0 0)).toArray 37)).alloc (.cells (msgCells (M.askOf r2 j) (.slice none 0 0)).toArray 37)).drew) :=
        ((HB2.out.alloc hb2s _).alloc (by simp; omega) _).drew
      have HX2 := Lib.hid hX2
      have HO3 := Lib.hid (own_below hso hX2 (Nat.le_refl _))
      have HS : Hid (Sl (((w2.alloc (.cells (msgCells (M.askOf r2 j) (.slice none 0 0)).toArray 37)).alloc (.cells (msgCells (M.askOf r2 j) (.slice none 0 0)).toArray 37)).drew) (w2.heap.size + 1 ≤ ·) 9 (.slice (some ⟨w2.heap.size + 1, 0, none⟩) 1 1) 1 (msgsCells [(M.askOf r2 j, .slice none 0 0)])) := by
        have := sl_one_msg (w2.alloc (.cells (msgCells (M.askOf r2 j) (.slice none 0 0)).toArray 37)) (M.askOf r2 j) (.slice none 0 0)
        have h9 : (w2.alloc (.cells (msgCells (M.askOf r2 j) (.slice none 0 0)).toArray 37)).heap.size = w2.heap.size + 1 := by simp
        rw [h9] at this
        exact this.below (Below.refl _ _).drew (Nat.le_refl _)
      have HSO := Lib.hid hso
      have HPR := Lib.hid hpr
      have HPS := Lib.hid hps
      have HLP := Lib.hid hlen2
      clear hX2 hso hpr hps hlen2
      have hzo5 : (((w2.alloc (.cells (msgCells (M.askOf r2 j) (.slice none 0 0)).toArray 37)).alloc (.cells (msgCells (M.askOf r2 j) (.slice none 0 0)).toArray 37)).drew).heap[W.heap.size]? = some (.cells [.bool true, .int .i64 r2.hard.term, .int .i64 r2.hard.vote, .int .i64 0, .slice none 0 0, .slice sA k sc].toArray 45) :=
        (Below.heap_alloc _ _ _ (by simp; omega)).trans ((Below.heap_alloc _ _ _ hWlt).trans HZO4.out)
      have HZO5 := Lib.hid hzo5
      clear hzo5
      go_wp2_with (at_builtin; refine wpList_append_sl _ rfl _ _ 27 rfl X.heap.size 37 _ 9 88 Try.underlying27 info37 rfl (by decide) _ ps.length (msgsCells ps) rfl HO3.out _ _ 1 _ rfl HS.out ?_ ?_ ?_ ?_ ?_; rotate_left 4; intro v' w3 hown hg hat; obtain ⟨vA, vc, rfl⟩ := own_form hown; have hzo6 := grown_blk hg HO3.out HZO5.out (by decide); have p5 := cell_blk hzo6 5; have pf5 := free_blk hzo6 5; simp only [List.getElem?_cons_succ, List.getElem?_cons_zero] at p5; have HZO6 := Lib.hid hzo6; have HOWN := Lib.hid hown; have HGR := Lib.hid hg; have HO4 := Lib.hid HO3.out; clear HO3 HS HZO5 hzo6 hown hg hat)
      · obtain rfl := HLP.out
        have hWs := HSZ.out
        have hso := HSO.out
        have hgb : ∀ q, (Value.slice sA ps.length sc).ownBlock = some q → X.heap.size ≤ q ∧ q < wr.heap.size := fun q hq => own_lt hso hq
        have hgr' : (((w2.alloc (.cells (msgCells (M.askOf r2 j) (.slice none 0 0)).toArray 37)).alloc (.cells (msgCells (M.askOf r2 j) (.slice none 0 0)).toArray 37)).drew).grownBy w3 (Value.slice sA ps.length sc).ownBlock := HGR.out
        have hfrY : Fr (fun q => (Value.slice sA ps.length sc).ownBlock = some q ∨ q = W.heap.size) wr (w3.setCell ⟨W.heap.size, 5, none⟩ (.slice vA (ps.length + 1) vc)) :=
          ((Fr.of_below HX2.out).grown hgr' (fun q hq => .inl (.inl hq))).setCell (p := ⟨W.heap.size, 5, none⟩) (.inl (.inr rfl)) _
        have hgne : ¬ ((Value.slice sA ps.length sc).ownBlock = some g ∨ g = W.heap.size) := by
          rintro (hq | hq)
          · exact (own_kind hso hq).ne hKr (by decide) rfl
          · omega
        go_roundw
        case rel =>
          refine ⟨ps.length + 1, vA, vc, by omega, by go_num, H2.out.fr hfrY ?_, HFR2.out.trans2 hfrY ?_, set_blk HZO6.out 5 _, ?_, ⟨ps ++ [(M.askOf r2 j, .slice none 0 0)], ?_, ?_, ?_⟩, Nat.le_trans hXr hfrY.size, Nat.lt_of_lt_of_le hgr hfrY.size, hKr.fr hfrY hgne, fun q hq => ?_⟩
          · rintro q (rfl | ⟨ad, h1, h2⟩) (hq | hq)
            · exact (own_kind hso hq).ne H2.out.kind (by decide) rfl
            · omega
            · refine (own_kind hso hq).ne (own_kind H2.out.own ?_) (by decide) rfl
              rw [h1, ← h2]; rfl
            · have := HH.out.rowLt ad h1; omega
          · rintro q (hq | hq)
            · have := hgb q hq; right; omega
            · right; omega
          · rw [hfrY.block w.heap.size (by omega) (by rintro (hq | hq)
                                                      · have := hgb _ hq; omega
                                                      · omega)]
            exact HZ2.out
          · have hk' : ps.length < (M.others (id : Int)).length := by rw [others_len]; omega
            rw [List.take_succ_eq_append_getElem hk', List.map_append, List.map_append, HPS.out]
            have hj' : (M.others (id : Int))[ps.length] = (j : Int) := by
              rw [← HJ.out, List.getD_eq_getElem?_getD, List.getElem?_eq_getElem hk']; rfl
            rw [hj']
            rfl
          · rw [msgsCells_append, List.length_append]
            exact own_fr HOWN.out (fr_setCell _ _ _) (fun q hq e => (own_kind HOWN.out hq).ne ⟨_, _, HZO6.out⟩ (by decide) e)
          · intro p hp
            rcases List.mem_append.1 hp with hp | hp
            · exact own_fr (HPR.out p hp) hfrY (fun q hq hq' => by
                rcases hq' with hq' | hq'
                · exact own_ne (HPR.out p hp) hso (by decide) hq hq'
                · exact (own_kind (HPR.out p hp) hq).ne ⟨_, _, HZO2.out⟩ (by decide) hq')
            · obtain rfl : p = (M.askOf r2 j, .slice none 0 0) := by simpa using hp
              exact World.ownsRow_nil _ _ _ _
          · rw [World.cell?_of_block (w := wr) (hfrY.block g hgr hgne)]
            exact HC.out q hq
        case measure => simp [intOf]; omega
      · exact msgsCells_one _ (fun p hp => by obtain rfl : p = (M.askOf r2 j, .slice none 0 0) := by simpa using hp
                                              rfl)
      · have := HLP.out; simp only [maxLen]; omega
      · have := HLP.out; omega
      · show X.heap.size ≤ ((w2.alloc _).alloc _).heap.size
        simp; omega
    · obtain rfl : k = 2 := by omega
      have x0 := cell_blk (cs := [.bool true, .int .i64 r2.hard.term, .int .i64 r2.hard.vote, .int .i64 0, .slice none 0 0, .slice sA 2 sc]) hzo 0
      have x1 := cell_blk (cs := [.bool true, .int .i64 r2.hard.term, .int .i64 r2.hard.vote, .int .i64 0, .slice none 0 0, .slice sA 2 sc]) hzo 1
      have x2 := cell_blk (cs := [.bool true, .int .i64 r2.hard.term, .int .i64 r2.hard.vote, .int .i64 0, .slice none 0 0, .slice sA 2 sc]) hzo 2
      have x3 := cell_blk (cs := [.bool true, .int .i64 r2.hard.term, .int .i64 r2.hard.vote, .int .i64 0, .slice none 0 0, .slice sA 2 sc]) hzo 3
      have x4 := cell_blk (cs := [.bool true, .int .i64 r2.hard.term, .int .i64 r2.hard.vote, .int .i64 0, .slice none 0 0, .slice sA 2 sc]) hzo 4
      have x5 := cell_blk (cs := [.bool true, .int .i64 r2.hard.term, .int .i64 r2.hard.vote, .int .i64 0, .slice none 0 0, .slice sA 2 sc]) hzo 5
      simp only [List.getElem?_cons_succ, List.getElem?_cons_zero] at x0 x1 x2 x3 x4 x5
      clear hc hms hfr2 hzo hz2 h2
      go_wp2_with (refine wpList_store_list rfl 45 (.tmp 2) (.tmp 87) rfl w.heap.size _ rfl rfl 45 _ HZ2.out 6 size45 rfl rfl rfl ?_)
      have hWs := HSZ.out
      refine bodyPost_ret (v := _) (results_cell_row rfl _ _ w.heap.size 45 _ (0, 0) _ rfl (setRow_heap _ _ _ _ _ _ HZ2.out) Try.underlying45 rfl size45) rfl ?_
      rw [HT2.out]
      refine ⟨A, cap, .slice none 0 0, .slice sA 2 sc, ?_, H2.out.fr (fr_setRow _ _ _) ?_, .inl rfl, ⟨World.ownsRow_nil _ _ _ _, ?_⟩, HFR2.out.trans2 (fr_setRow _ _ _) ?_⟩
      · show _ = Ending.returned (.agg #[.bool true, .int .i64 (r.hard.term + 1), .int .i64 r.id, .int .i64 0, _, _])
        rw [show r.hard.term + 1 = r2.hard.term from by rw [HR2H.out], show r.id = r2.hard.vote from by rw [HR2H.out]] <;> rfl
      · rintro q (rfl | ⟨ad, h1, h2⟩) hq
        · omega
        · have := HH.out.rowLt ad h1; omega
      · have := HMS.out
        rw [List.take_of_length_le (by rw [others_len]; omega)] at this
        refine (MsgsOk.fr (S := fun q => q = w.heap.size) ?_ (fr_setRow _ _ _) (fun q hq _ e => ?_)).mono (base := X.heap.size) (by omega)
        · show MsgsOk wr X.heap.size _ ((M.others r.id).map (M.askOf r2))
          rw [HI.out]
          exact this
        · omega
      · rintro q rfl
        right; omega

theorem tick_calls (h : RepOk w b r A cap) : Calls Try.prog 13 #[.pointer (some ⟨b, 0, none⟩)] w (After w b A (M.tick r).1 (M.tick r).2) := by
  by_cases hr : r.role = 2
  · have : M.tick r = (r, { M.noOut with send := M.all r }) := by unfold M.tick; rw [if_pos hr]
    rw [this]
    exact tick_lead h hr
  · by_cases ht : r.hard.term = 1099511627776
    · have : M.tick r = (r, M.noOut) := by unfold M.tick; rw [if_neg hr, if_pos ht]
      rw [this]
      exact tick_max h hr ht
    · exact tick_ask h hr ht
end
end Go.Proofs.Ytodmihpmbecncaa
