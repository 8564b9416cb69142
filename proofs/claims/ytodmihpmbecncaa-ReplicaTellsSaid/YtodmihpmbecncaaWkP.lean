/-
  The walk of replica.Propose, the case where the log grows; and the two cases together: it computes what the model says.
-/
import Derived.Test.YtodmihpmbecncaaWkO
namespace Go.Proofs.Ytodmihpmbecncaa
open Go.RowKit

section
variable {w : World} {b : Nat} {r : Rep} {A : Option Addr} {cap : Nat}

set_option linter.unusedSimpArgs false in
set_option maxRecDepth 10000 in
set_option maxHeartbeats 800000 in
theorem propose_calls_yes (h : RepOk w b r A cap) (data : ByteArray) (h2 : r.role = 2) (hd : data.size ≤ 2000) (hl : r.log.length ≠ 4000) (ht : 1 ≤ r.hard.term) :
    Calls Try.prog 16 #[.pointer (some ⟨b, 0, none⟩), .string data] w (AfterP w b A (M.propose r data).1 (M.propose r data).2.1 (M.propose r data).2.2.1 (M.propose r data).2.2.2) := by
  have hb := h.lt
  have hlen : r.log.length < 4000 := by have := h.wf.len; omega
  have hlenI : (r.log.length : Int) < 4000 := by omega
  have HWF := Lib.hid (h.wf.push h2 hlen data hd ht)
  have HNX := Lib.hid ((h.wf.push h2 hlen data hd ht).nexts h2)
  have hE : M.propose r data = ({ r with log := r.log ++ [(⟨r.hard.term, data⟩ : Rec)] }, ((r.log ++ [(⟨r.hard.term, data⟩ : Rec)]).length : Int), 0, { M.noOut with fr := ((r.log ++ [(⟨r.hard.term, data⟩ : Rec)]).length : Int), recs := [⟨r.hard.term, data⟩], send := M.all { r with log := r.log ++ [⟨r.hard.term, data⟩] } }) := by
    unfold M.propose
    rw [if_neg (by simpa using h2), if_neg (by omega), if_neg hl]
  have HE := Lib.hid hE
  have HH := Lib.hid h
  have d1 : (r.role != 2) = false := by simp [h2]
  have d2 : decide ((2000 : Int) < (data.size : Int)) = false := by simp; omega
  have d3 : ((r.log.length : Int) == 4000) = false := by simp; omega
  clear h h2 hE hd hl
  go_enter Try.func16, Try.ntmps16
  go_upto_block 0 with fail
  refine wp_world (fun W => RepOk W b r A cap ∧ Fr (RepS b A) w W ∧ W.heap[w.heap.size]? = some zOut) ⟨HH.out.alloc _, (Fr.refl _ w).alloc _, heap_alloc_new w _⟩ ?_
  rintro W ⟨hR, hF, hZ⟩
  obtain ⟨c0, c1, c2, c3, c4, _⟩ := hR.cells
  have hbW := hR.lt
  have hzW := lt_blk hZ
  have HR := Lib.hid hR
  have HF := Lib.hid hF
  have HZ := Lib.hid hZ
  clear hR hF hZ
  go_upto_region 8 with fail
  refine wp_world (fun U => RepOk U b r A cap ∧ Fr (RepS b A) w U ∧ U.heap[w.heap.size]? = some zOut ∧ U.heap[W.heap.size]? = some (.cells [.int .i64 r.hard.term, .string data].toArray 55))
    ⟨HR.out.alloc _, HF.out.alloc _, (Below.heap_alloc _ _ _ hzW).trans HZ.out, heap_alloc_new W _⟩ ?_
  clear c0 c1 c2 c3 c4 HR HF HZ
  rintro U ⟨hR, hF, hZ, hX⟩
  have c3 := hR.cells.2.2.2.1
  have f3 := hR.free 3
  have hbU := hR.lt
  have x0 := cell_blk hX 0
  have x1 := cell_blk hX 1
  simp only [List.getElem?_cons_succ, List.getElem?_cons_zero] at x0 x1
  have hxL := lt_blk hX
  have HR := Lib.hid hR
  have HF := Lib.hid hF
  have HZ := Lib.hid hZ
  have HX := Lib.hid hX
  have hcap := (own_cap hR.own)
  clear hR hF hZ hX
  go_cut [] (fun wx => ∃ A' cap', RepOk wx b { r with log := r.log ++ [⟨r.hard.term, data⟩] } A' cap' ∧ (A' = A ∨ ∀ ad, A' = some ad → w.heap.size ≤ ad.block) ∧ Fr (RepS b A) w wx ∧ wx.heap[w.heap.size]? = some zOut ∧ wx.heap[W.heap.size]? = some (.cells [.int .i64 r.hard.term, .string data].toArray 55))
  case rest =>
    obtain ⟨A', cap', hR, hA, hF, hZ, hX⟩ := hcut
    clear c3 f3 x0 x1 HR HF HZ HX hcap hxL hbU
    have c3 := hR.cells.2.2.2.1
    have hbV := hR.lt
    have x0 := cell_blk hX 0
    have x1 := cell_blk hX 1
    simp only [List.getElem?_cons_succ, List.getElem?_cons_zero] at x0 x1
    have hxL := lt_blk hX
    have hzL := lt_blk hZ
    have hL : (r.log ++ [(⟨r.hard.term, data⟩ : Rec)]).length ≤ 4000 := by simp; omega
    generalize hr1 : ({ r with log := r.log ++ [⟨r.hard.term, data⟩] } : Rep) = r1 at *
    have c3 : wc.cell? ⟨b, 3, none⟩ = some (.slice A' r1.log.length cap') := hR.cells.2.2.2.1
    have HR := Lib.hid hR
    have HF := Lib.hid hF
    have HZ := Lib.hid hZ
    have HX := Lib.hid hX
    clear hR hF hZ hX
    go_upto_region 9 with fail
    have HNX1 : Hid (∀ j : Nat, j < 3 → 1 ≤ r1.next.getD j 0 ∧ r1.next.getD j 0 ≤ r1.log.length + 1) := HNX.out
    have hne3 : b ≠ w.heap.size := by have := HH.out.lt; omega
    have hneX : W.heap.size ≠ w.heap.size := by omega
    have hA'ne : ∀ k, RepS b A' k → ¬ k = w.heap.size := by
      rintro k (rfl | ⟨ad, q1, q2⟩) q
      · omega
      · exact (own_kind HR.out.own (k := ad.block) (by rw [q1]; rfl)).ne ⟨_, _, HZ.out⟩ (by decide) (q2.trans q)
    have hS : ∀ w', (Fr (fun k => k = w.heap.size) wc w' ∧ P6 w' w.heap.size) → ((Fr (fun k => k = w.heap.size) wc w' ∧ P6 w' w.heap.size) ∧ w'.cell? ⟨b, 3, none⟩ = some (.slice A' r1.log.length cap') ∧ w'.cell? ⟨W.heap.size, 0, none⟩ = some (.int .i64 r.hard.term) ∧ w'.cell? ⟨W.heap.size, 1, none⟩ = some (.string data)) := fun w' ⟨hf, h6⟩ =>
      ⟨⟨hf, h6⟩, (World.cell?_of_block (w := wc) (hf.block b hbV hne3)).trans c3, (World.cell?_of_block (w := wc) (hf.block W.heap.size hxL hneX)).trans x0, (World.cell?_of_block (w := wc) (hf.block W.heap.size hxL hneX)).trans x1⟩
    have HSS := Lib.hid hS
    have HA' := Lib.hid hA'ne
    have HNX1 : Hid (∀ j : Nat, j < 3 → 1 ≤ r1.next.getD j 0 ∧ r1.next.getD j 0 ≤ r1.log.length + 1) := HNX.out
    have HP6 : Hid (P6 wc w.heap.size) := ⟨_, HZ.out, rfl⟩
    clear hS hA'ne c3 x0 x1
    refine wp_region_noPanic ?_
    refine wp_region_held_drew (S := fun w' => (Fr (fun k => k = w.heap.size) wc w' ∧ P6 w' w.heap.size) ∧ w'.cell? ⟨b, 3, none⟩ = some (.slice A' r1.log.length cap') ∧ w'.cell? ⟨W.heap.size, 0, none⟩ = some (.int .i64 r.hard.term) ∧ w'.cell? ⟨W.heap.size, 1, none⟩ = some (.string data)) (by kernel_rfl) (HSS.out _ ⟨(Fr.refl _ _).drew, HP6.out⟩) (fun hHeld => ?_)
    refine wpAnyH_take (i := 0) (v := ?_) rfl (by kernel_rfl) (by kernel_rfl) (by kernel_rfl) (fun _ _ _ h => h) (Or.inl ⟨by rfl, ?_⟩) (by assumption) ?_
    rotate_left 1
    · intro w' hSw
      (try dsimp only at hSw)
      go_simp
      (try with_reducible rfl)
    (try simp only [Act.put, List.setIfInBounds_toArray, List.set_cons_zero, List.set_cons_succ])
    refine wpAnyH_take (i := 1) (v := ?_) rfl (by kernel_rfl) (by kernel_rfl) (by kernel_rfl) (fun _ _ _ h => h) (Or.inl ⟨by rfl, ?_⟩) (by assumption) ?_
    rotate_left 1
    · intro w' hSw
      (try dsimp only at hSw)
      go_simp
      (try with_reducible rfl)
    (try simp only [Act.put, List.setIfInBounds_toArray, List.set_cons_zero, List.set_cons_succ])
    refine wpAnyH_take (i := 2) (v := ?_) rfl (by kernel_rfl) (by kernel_rfl) (by kernel_rfl) (fun _ _ _ h => h) (Or.inl ⟨by rfl, ?_⟩) (by assumption) ?_
    rotate_left 1
    · intro w' hSw
      (try dsimp only at hSw)
      go_simp
      (try with_reducible rfl)
    (try simp only [Act.put, List.setIfInBounds_toArray, List.set_cons_zero, List.set_cons_succ])
    refine wpAnyH_take (i := 3) (v := ?_) rfl (by kernel_rfl) (by kernel_rfl) (by kernel_rfl) (fun _ _ _ h => h) (Or.inl ⟨by rfl, ?_⟩) (by assumption) ?_
    rotate_left 1
    · intro w' hSw
      (try dsimp only at hSw)
      go_simp
      (try with_reducible rfl)
    (try simp only [Act.put, List.setIfInBounds_toArray, List.set_cons_zero, List.set_cons_succ])
    refine wpAnyH_take (i := 4) (v := ?_) rfl (by kernel_rfl) (by kernel_rfl) (by kernel_rfl) (fun _ _ _ h => h) (Or.inl ⟨by rfl, ?_⟩) (by assumption) ?_
    rotate_left 1
    · intro w' hSw
      (try dsimp only at hSw)
      go_simp
      (try with_reducible rfl)
    (try simp only [Act.put, List.setIfInBounds_toArray, List.set_cons_zero, List.set_cons_succ])
    refine wpAnyH_take (i := 5) (v := ?_) rfl (by kernel_rfl) (by kernel_rfl) (by kernel_rfl) (fun _ _ _ h => h) (Or.inl ⟨by rfl, ?_⟩) (by assumption) ?_
    rotate_left 1
    · intro w' hSw
      (try dsimp only at hSw)
      go_simp
      (try with_reducible rfl)
    (try simp only [Act.put, List.setIfInBounds_toArray, List.set_cons_zero, List.set_cons_succ])
    refine wpAnyH_take (i := 6) (v := ?_) rfl (by kernel_rfl) (by kernel_rfl) (by kernel_rfl) (fun _ _ _ h => h) (Or.inl ⟨by rfl, ?_⟩) (by assumption) ?_
    rotate_left 1
    · intro w' hSw
      (try dsimp only at hSw)
      go_simp
      (try with_reducible rfl)
    (try simp only [Act.put, List.setIfInBounds_toArray, List.set_cons_zero, List.set_cons_succ])
    refine wpAnyH_take (i := 7) (v := ?_) rfl (by kernel_rfl) (by kernel_rfl) (by kernel_rfl) (fun _ _ _ h => h) (Or.inl ⟨by rfl, ?_⟩) (by assumption) ?_
    rotate_left 1
    · intro w' hSw
      (try dsimp only at hSw)
      go_simp
      (try with_reducible rfl)
    (try simp only [Act.put, List.setIfInBounds_toArray, List.set_cons_zero, List.set_cons_succ])
    refine wpAnyH_take (i := 8) (v := ?_) rfl (by kernel_rfl) (by kernel_rfl) (by kernel_rfl) (fun _ _ _ h => h) (Or.inl ⟨by rfl, ?_⟩) (by assumption) ?_
    rotate_left 1
    · intro w' hSw
      (try dsimp only at hSw)
      go_simp
      (try with_reducible rfl)
    (try simp only [Act.put, List.setIfInBounds_toArray, List.set_cons_zero, List.set_cons_succ])
    refine wpAnyH_take (i := 9) (v := ?_) rfl (by kernel_rfl) (by kernel_rfl) (by kernel_rfl) (fun _ _ _ h => h) (Or.inl ⟨by rfl, ?_⟩) (by assumption) ?_
    rotate_left 1
    · intro w' hSw
      (try dsimp only at hSw)
      go_simp
      (try with_reducible rfl)
    (try simp only [Act.put, List.setIfInBounds_toArray, List.set_cons_zero, List.set_cons_succ])
    refine wpAnyH_take (i := 10) (v := ?_) rfl (by kernel_rfl) (by kernel_rfl) (by kernel_rfl) (fun _ _ _ h => h) (Or.inl ⟨by rfl, ?_⟩) (by assumption) ?_
    rotate_left 1
    · intro w' hSw
      (try dsimp only at hSw)
      go_simp
      (try with_reducible rfl)
    (try simp only [Act.put, List.setIfInBounds_toArray, List.set_cons_zero, List.set_cons_succ])
    refine wpAnyH_take (i := 12) (v := ?_) rfl (by kernel_rfl) (by kernel_rfl) (by kernel_rfl) (fun _ _ _ h => h) (Or.inl ⟨by rfl, ?_⟩) (by assumption) ?_
    rotate_left 1
    · intro w' hSw
      (try dsimp only at hSw)
      go_simp
      (try with_reducible rfl)
    (try simp only [Act.put, List.setIfInBounds_toArray, List.set_cons_zero, List.set_cons_succ])
    refine wpAnyH_ready (rs := [11, 13]) (by kernel_rfl) (by simp) ?_
    refine AllReadyH.cons rfl (fun K hK => ?_) (AllReadyH.cons rfl (fun K hK => ?_) AllReadyH.nil)
    · have HHF := hHeld.1.1
      have HH6 := hHeld.1.2
      go_simp
      refine hK.out _ _ (HSS.out _ ⟨Fr.alloc HHF _, P6.below HH6 ((Below.refl _ _).alloc (Nat.le_refl _) _) (Nat.le_refl _)⟩) (fun hHeld2 => ?_)
      clear hK K
      (try simp only [Act.put, List.setIfInBounds_toArray, List.set_cons_zero, List.set_cons_succ])
      refine wpAnyH_ready (rs := [13]) (by kernel_rfl) (by simp) ?_
      refine AllReadyH.cons rfl (fun K hK => ?_) AllReadyH.nil
      clear HHF HH6
      have HHF := hHeld2.1.1
      have HH6 := hHeld2.1.2
      go_simp
      go_at_call 33
      refine (all_calls (r := r1) (b := b) (A := A') (cap := cap') (HR.out.fr HHF HA'.out) HNX1.out).mono ?_
      rintro e w6 ⟨sv, rfl, hms, hb6⟩
      obtain ⟨sA, sc, rfl⟩ := msgs_form hms
      have HMS := Lib.hid hms
      have HB6 := Lib.hid hb6
      clear hms hb6
      go_simp
      refine hK.out _ _ (HSS.out _ ⟨Fr.trans HHF (Fr.of_below HB6.out), P6.below HH6 HB6.out (Nat.le_refl _)⟩) (fun hHeld3 => ?_)
      clear hK K
      (try simp only [Act.put, List.setIfInBounds_toArray, List.set_cons_zero, List.set_cons_succ])
      refine wpAnyH_take (i := 14) (v := ?_) rfl (by kernel_rfl) (by kernel_rfl) (by kernel_rfl) (fun _ _ _ h => h) (Or.inl ⟨by rfl, ?_⟩) (by assumption) ?_
      rotate_left 1
      · intro w' hSw
        (try dsimp only at hSw)
        go_simp
        (try with_reducible rfl)
      (try simp only [Act.put, List.setIfInBounds_toArray, List.set_cons_zero, List.set_cons_succ])
      refine wpAnyH_take (i := 15) (v := ?_) rfl (by kernel_rfl) (by kernel_rfl) (by kernel_rfl) (fun _ _ _ h => h) (Or.inl ⟨by rfl, ?_⟩) (by assumption) ?_
      rotate_left 1
      · intro w' hSw
        (try dsimp only at hSw)
        go_simp
        (try with_reducible rfl)
      (try simp only [Act.put, List.setIfInBounds_toArray, List.set_cons_zero, List.set_cons_succ])
      refine wpAnyH_take (i := 16) (v := ?_) rfl (by kernel_rfl) (by kernel_rfl) (by kernel_rfl) (fun _ _ _ h => h) (Or.inl ⟨by rfl, ?_⟩) (by assumption) ?_
      rotate_left 1
      · intro w' hSw
        (try dsimp only at hSw)
        go_simp
        (try with_reducible rfl)
      (try simp only [Act.put, List.setIfInBounds_toArray, List.set_cons_zero, List.set_cons_succ])
      have HHG := hHeld3.1.1
      obtain ⟨cs, hcs1, hcs2⟩ := hHeld3.1.2
      refine wpAnyH_ready (rs := [17]) (by kernel_rfl) (by simp) ?_
      refine AllReadyH.cons rfl (fun K hK => ?_) AllReadyH.nil
      rw [if_pos (by rfl)]
      refine wp_store_row 45 (.tmp 6) (.tmp 59) rfl w.heap.size _ rfl rfl 45 cs hcs1 size45 hcs2 (by rw [← Array.all_toList]; rfl) ?_
      refine hK.out _ _ (HSS.out _ ⟨HHG.setRow (.inl rfl) _, ⟨_, setRow_heap _ _ _ _ _ _ hcs1, rfl⟩⟩) (fun hHeld4 => ?_)
      clear hK K
      (try simp only [Act.put, List.setIfInBounds_toArray, List.set_cons_zero, List.set_cons_succ])
      refine wpAnyH_done (by kernel_rfl) (NoPanic.normal ?_) _
      have HB := Lib.hid hcs1
      have HH4 := Lib.hid hHeld4.1.1
      clear hHeld hHeld3 hHeld4 HHG hcs1
      go_wp2_with fail
      refine bodyPost_ret (v := _) (results_ttc' rfl _ _ w.heap.size 45 _ (0, 0) _ rfl (setRow_heap _ _ _ _ _ _ HB.out) Try.underlying45 rfl size45) rfl ?_
      have hl1 : r1.log = r.log ++ [⟨r.hard.term, data⟩] := by rw [← hr1]
      have hE := HE.out
      rw [← hl1] at hE
      rw [hE]
      have hws := HF.out.size
      refine ⟨A', cap', .slice (some ⟨_, 0, none⟩) 1 1, .slice sA _ sc, rfl, HR.out.fr HH4.out HA'.out, hA.imp id (fun h ad e => ⟨h ad e, ?_, ?_⟩), ⟨?_, ?_⟩, HF.out.trans2 HH4.out (fun i e => .inr (by omega))⟩
      · have h1 := HR.out.rowLt ad e
        intro hq
        have h2 : wc.drew.heap.size = ad.block := Option.some.inj hq
        have h3 : wc.drew.heap.size = wc.heap.size := rfl
        omega
      · exact (HMS.out.fr (S := fun k => k = w.heap.size) (fr_setRow _ _ _) (fun k hk q e => by
          rcases q with q | q
          · exact q.ne ⟨_, _, HB.out⟩ (by decide) e
          · exact q.ne ⟨_, _, HB.out⟩ (by decide) e)).mono (by have h1 := HR.out.rowLt ad e; simp; omega)
      · exact own_mono (own_fr (S := fun k => k = w.heap.size) (own_below (own_one_rec wc.drew ⟨r.hard.term, data⟩) HB6.out (Nat.le_refl _)) (fr_setRow _ _ _) (fun q hq e => (own_kind (own_below (own_one_rec wc.drew ⟨r.hard.term, data⟩) HB6.out (Nat.le_refl _)) hq).ne ⟨_, _, HB.out⟩ (by decide) e)) (by show w.heap.size ≤ wc.heap.size; omega)
      · exact (HMS.out.fr (S := fun k => k = w.heap.size) (fr_setRow _ _ _) (fun k hk q e => by
          rcases q with q | q
          · exact q.ne ⟨_, _, HB.out⟩ (by decide) e
          · exact q.ne ⟨_, _, HB.out⟩ (by decide) e)).mono (by simp; omega)
    · have HHF := hHeld.1.1
      have HH6 := hHeld.1.2
      go_simp
      go_at_call 33
      refine (all_calls (r := r1) (b := b) (A := A') (cap := cap') (HR.out.fr HHF HA'.out) HNX1.out).mono ?_
      rintro e w6 ⟨sv, rfl, hms, hb6⟩
      obtain ⟨sA, sc, rfl⟩ := msgs_form hms
      have HMS := Lib.hid hms
      have HB6 := Lib.hid hb6
      clear hms hb6
      go_simp
      refine hK.out _ _ (HSS.out _ ⟨Fr.trans HHF (Fr.of_below HB6.out), P6.below HH6 HB6.out (Nat.le_refl _)⟩) (fun hHeld2 => ?_)
      clear hK K
      (try simp only [Act.put, List.setIfInBounds_toArray, List.set_cons_zero, List.set_cons_succ])
      refine wpAnyH_take (i := 15) (v := ?_) rfl (by kernel_rfl) (by kernel_rfl) (by kernel_rfl) (fun _ _ _ h => h) (Or.inl ⟨by rfl, ?_⟩) (by assumption) ?_
      rotate_left 1
      · intro w' hSw
        (try dsimp only at hSw)
        go_simp
        (try with_reducible rfl)
      (try simp only [Act.put, List.setIfInBounds_toArray, List.set_cons_zero, List.set_cons_succ])
      refine wpAnyH_take (i := 16) (v := ?_) rfl (by kernel_rfl) (by kernel_rfl) (by kernel_rfl) (fun _ _ _ h => h) (Or.inl ⟨by rfl, ?_⟩) (by assumption) ?_
      rotate_left 1
      · intro w' hSw
        (try dsimp only at hSw)
        go_simp
        (try with_reducible rfl)
      (try simp only [Act.put, List.setIfInBounds_toArray, List.set_cons_zero, List.set_cons_succ])
      refine wpAnyH_ready (rs := [11]) (by kernel_rfl) (by simp) ?_
      refine AllReadyH.cons rfl (fun K hK => ?_) AllReadyH.nil
      clear HHF HH6
      have HHF := hHeld2.1.1
      have HH6 := hHeld2.1.2
      have HP2 := Lib.hid HH6
      have hs6 : wc.heap.size ≤ w6.heap.size := HB6.out.size
      go_simp
      refine hK.out _ _ (HSS.out _ ⟨Fr.alloc HHF _, P6.below HH6 ((Below.refl _ _).alloc (Nat.le_refl _) _) (Nat.le_refl _)⟩) (fun hHeld3 => ?_)
      clear hK K
      (try simp only [Act.put, List.setIfInBounds_toArray, List.set_cons_zero, List.set_cons_succ])
      refine wpAnyH_take (i := 14) (v := ?_) rfl (by kernel_rfl) (by kernel_rfl) (by kernel_rfl) (fun _ _ _ h => h) (Or.inl ⟨by rfl, ?_⟩) (by assumption) ?_
      rotate_left 1
      · intro w' hSw
        (try dsimp only at hSw)
        go_simp
        (try with_reducible rfl)
      (try simp only [Act.put, List.setIfInBounds_toArray, List.set_cons_zero, List.set_cons_succ])
      have HHG := hHeld3.1.1
      obtain ⟨cs, hcs1, hcs2⟩ := hHeld3.1.2
      refine wpAnyH_ready (rs := [17]) (by kernel_rfl) (by simp) ?_
      refine AllReadyH.cons rfl (fun K hK => ?_) AllReadyH.nil
      rw [if_pos (by rfl)]
      refine wp_store_row 45 (.tmp 6) (.tmp 59) rfl w.heap.size _ rfl rfl 45 cs hcs1 size45 hcs2 (by rw [← Array.all_toList]; rfl) ?_
      refine hK.out _ _ (HSS.out _ ⟨HHG.setRow (.inl rfl) _, ⟨_, setRow_heap _ _ _ _ _ _ hcs1, rfl⟩⟩) (fun hHeld4 => ?_)
      clear hK K
      (try simp only [Act.put, List.setIfInBounds_toArray, List.set_cons_zero, List.set_cons_succ])
      refine wpAnyH_done (by kernel_rfl) (NoPanic.normal ?_) _
      have HB := Lib.hid hcs1
      have HH4 := Lib.hid hHeld4.1.1
      clear hHeld hHeld3 hHeld4 HHG hcs1
      go_wp2_with fail
      refine bodyPost_ret (v := _) (results_ttc' rfl _ _ w.heap.size 45 _ (0, 0) _ rfl (setRow_heap _ _ _ _ _ _ HB.out) Try.underlying45 rfl size45) rfl ?_
      have hl1 : r1.log = r.log ++ [⟨r.hard.term, data⟩] := by rw [← hr1]
      have hE := HE.out
      rw [← hl1] at hE
      rw [hE]
      have hws := HF.out.size
      refine ⟨A', cap', .slice (some ⟨_, 0, none⟩) 1 1, .slice sA _ sc, rfl, HR.out.fr HH4.out HA'.out, hA.imp id (fun h ad e => ⟨h ad e, ?_, ?_⟩), ⟨?_, ?_⟩, HF.out.trans2 HH4.out (fun i e => .inr (by omega))⟩
      · have h1 := HR.out.rowLt ad e
        intro hq
        have h2 : w6.heap.size = ad.block := Option.some.inj hq
        omega
      · obtain ⟨cs2, hc2, _⟩ := HP2.out
        exact (HMS.out.fr (S := fun k => k = w.heap.size) ((((Fr.refl (fun k => k = w.heap.size) w6).alloc _)).setRow (.inl rfl) _) (fun k hk q e => by
          rcases q with q | q
          · exact q.ne ⟨_, _, hc2⟩ (by decide) e
          · exact q.ne ⟨_, _, hc2⟩ (by decide) e)).mono (by have h1 := HR.out.rowLt ad e; show ad.block + 1 ≤ wc.heap.size; omega)
      · exact own_mono (own_fr (S := fun k => k = w.heap.size) (own_one_rec w6 ⟨r.hard.term, data⟩) (fr_setRow _ _ _) (fun q hq e => (own_kind (own_one_rec w6 ⟨r.hard.term, data⟩) hq).ne ⟨_, _, HB.out⟩ (by decide) e)) (by omega)
      · obtain ⟨cs2, hc2, _⟩ := HP2.out
        exact (HMS.out.fr (S := fun k => k = w.heap.size) ((((Fr.refl (fun k => k = w.heap.size) w6).alloc _)).setRow (.inl rfl) _) (fun k hk q e => by
          rcases q with q | q
          · exact q.ne ⟨_, _, hc2⟩ (by decide) e
          · exact q.ne ⟨_, _, hc2⟩ (by decide) e)).mono (by show w.heap.size ≤ wc.heap.size; omega)
  case first =>
    go_region_law ((
      refine step_append_sl rfl _ _ 35 (by rfl) 0 55 _ 2 24 Try.underlying35 info55 rfl (by decide) _ r.log.length (recsCells r.log) (by rfl) (own_below HR.out.own ((Below.refl _ U).drew.alloc (by simp) _) (Nat.le_refl _)) (U.heap.size ≤ ·) _ 1 (recsCells [⟨r.hard.term, data⟩]) (by rfl) (sl_one_rec U.drew ⟨r.hard.term, data⟩) (recsCells_one _) (by simp only [maxLen]; omega) (by omega) (Nat.zero_le _) ?_
      intro v' w4 hown4 hg4 hat4
      obtain ⟨A4, c4, rfl⟩ := own_form hown4
      have hrb : ∀ q, (Value.slice A r.log.length cap).ownBlock = some q → RepS b A q ∧ q < U.heap.size ∧ q ≠ b ∧ q < w.heap.size := by
        intro q hq
        have hk := own_kind HR.out.own hq
        refine ⟨.inr ?_, (own_lt HR.out.own hq).2, hk.ne HR.out.kind (by decide), ?_⟩
        · cases A with
          | none => cases hq
          | some ad => exact ⟨ad, rfl, Option.some.inj hq⟩
        · cases A with
          | none => cases hq
          | some ad => have := HH.out.rowLt ad rfl; have h9 : ad.block = q := Option.some.inj hq; omega
      have hbk4 : w4.heap[b]? = U.heap[b]? := (hg4.block b (by simp; omega) (fun q => (hrb b q.symm).2.2.1 rfl)).trans (Below.heap_alloc _ _ _ (by show b < U.heap.size; exact hbU))
      have hR4 := hbk4.trans HR.out.blk
      have d3' : w4.cell? ⟨b, 3, none⟩ = some (.slice A r.log.length cap) := cell_blk hR4 3
      have f3' : w4.frozen? ⟨b, 3, none⟩ = false := free_blk hR4 3))
    all_goals (go_wp2_with fail; go_meet)
    all_goals
      have hL : (r.log ++ [(⟨r.hard.term, data⟩ : Rec)]).length = r.log.length + 1 := by simp
      have hown5 : w4.ownsRow 0 55 2 (.slice A4 (r.log ++ [(⟨r.hard.term, data⟩ : Rec)]).length c4) (r.log ++ [(⟨r.hard.term, data⟩ : Rec)]).length (recsCells (r.log ++ [⟨r.hard.term, data⟩])) := by
        rw [hL, recsCells_append]; exact hown4
      have hq0 : (U.drew.alloc (.cells #[.int .i64 r.hard.term, .string data] 55)).heap.size = U.heap.size + 1 := by simp
      have hq1 : ((U.alloc (.cells #[.int .i64 r.hard.term, .string data] 55)).drew).heap.size = U.heap.size + 1 := by show (U.alloc _).heap.size = _; simp
      have hUs := HF.out.size
      refine ⟨A4, c4, ⟨?_, HWF.out⟩, ?_, ?_, ?_, ?_⟩
      · have := RepB.laidLog hR4 HR.out.vN HR.out.nN HR.out.mN (r.log ++ [⟨r.hard.term, data⟩]) A4 c4 hown5
        rw [hL] at this
        exact this
      · refine (own_grow (own_below HR.out.own ((Below.refl _ U).drew.alloc (by simp) _) (Nat.le_refl _)) hown4 hat4).imp id (fun h ad e => ?_)
        have := h ad e
        omega
      · exact ((HF.out.drew.alloc _).grown hg4 (fun k hk => .inl (hrb k hk).1)).setCell (.inl (.inl rfl)) _
      · exact (other_blk (by show w.heap.size ≠ b; omega)).trans ((hg4.block _ (by omega) (fun q => by have := (hrb _ q.symm).2.2.2; omega)).trans ((Below.heap_alloc _ _ _ (by show w.heap.size < U.heap.size; omega)).trans HZ.out))
      · exact (other_blk (by show W.heap.size ≠ b; omega)).trans ((hg4.block _ (by omega) (fun q => by have := (hrb _ q.symm).2.2.2; omega)).trans ((Below.heap_alloc _ _ _ hxL).trans HX.out))

theorem propose_calls (h : RepOk w b r A cap) (data : ByteArray) (hdl : data.size ≤ 9223372036854775807) (ht : r.role = 2 → 1 ≤ r.hard.term) :
    Calls Try.prog 16 #[.pointer (some ⟨b, 0, none⟩), .string data] w (AfterP w b A (M.propose r data).1 (M.propose r data).2.1 (M.propose r data).2.2.1 (M.propose r data).2.2.2) := by
  by_cases h1 : r.role = 2
  · by_cases h2 : 2000 < data.size
    · exact propose_calls_no h data hdl (.inr (.inl h2))
    · by_cases h3 : r.log.length = 4000
      · exact propose_calls_no h data hdl (.inr (.inr h3))
      · exact propose_calls_yes h data h1 (by omega) h3 (ht h1)
  · exact propose_calls_no h data hdl (.inl h1)
end
end Go.Proofs.Ytodmihpmbecncaa
