/-
  Walk of the cluster's arrive, second part. Condition: what is stored is what the replicas have.
-/
import Derived.Test.YtodmihpmbecncaaClE
namespace Go.Proofs.Ytodmihpmbecncaa
open Go.RowKit

theorem M.hear_fr (r : Rep) (m : Msg) : (M.hear r m).2.fr ≤ 1000000 := by
  unfold M.hear
  split
  · show (0 : Int) ≤ _; omega
  rename_i hr
  have hr : M.right r m = true := by cases h : M.right r m <;> simp_all
  have hw : m.index ≤ 4000 := (M.right_of hr).2.2.2.2.2.2
  have h8 : m.recs.length ≤ 8 := by
    unfold M.right at hr
    simp only [Bool.and_eq_true, decide_eq_true_eq] at hr
    exact hr.1.1.2
  dsimp only
  generalize (if r.hard.term < m.term then ({ r with hard := ⟨m.term, -1⟩, role := 0 } : Rep) else r) = r1
  have key : (if m.kind = 0 then M.vote r1 m else if m.kind = 1 then M.voted r1 m else if m.kind = 2 then M.append r1 m else M.appended r1 m).2.fr ≤ 1000000 := by
    split
    · unfold M.vote; dsimp only; split <;> (show (0 : Int) ≤ _; omega)
    split
    · unfold M.voted; split
      · show (0 : Int) ≤ _; omega
      · dsimp only; split <;> (show (0 : Int) ≤ _; omega)
    split
    · unfold M.append
      dsimp only
      have := M.agree_le r1.log m.index m.recs
      split
      · show (0 : Int) ≤ _; omega
      split
      · show (0 : Int) ≤ _; omega
      split
      · show (0 : Int) ≤ _; omega
      split
      · split
        · show (0 : Int) ≤ _; omega
        · show m.index + (M.agree r1.log m.index m.recs : Int) + 1 ≤ _; omega
      · show (0 : Int) ≤ _; omega
    · unfold M.appended
      split
      · show (0 : Int) ≤ _; omega
      · dsimp only
        split
        · show (0 : Int) ≤ _; omega
        · split <;> (show (0 : Int) ≤ _; omega)
  revert key
  generalize (if m.kind = 0 then M.vote r1 m else if m.kind = 1 then M.voted r1 m else if m.kind = 2 then M.append r1 m else M.appended r1 m) = ro
  obtain ⟨r2, o⟩ := ro
  intro key
  show (if r2.hard ≠ r.hard then { o with save := true, hard := r2.hard } else o).fr ≤ _
  split <;> exact key
theorem M.hear_id (r : Rep) (m : Msg) : (M.hear r m).1.id = r.id := by
  unfold M.hear
  split
  · rfl
  dsimp only
  generalize hr1 : (if r.hard.term < m.term then ({ r with hard := ⟨m.term, -1⟩, role := 0 } : Rep) else r) = r1
  have e1 : r1.id = r.id := by rw [← hr1]; split <;> rfl
  have key : (if m.kind = 0 then M.vote r1 m else if m.kind = 1 then M.voted r1 m else if m.kind = 2 then M.append r1 m else M.appended r1 m).1.id = r.id := by
    rw [← e1]
    split
    · unfold M.vote; dsimp only; split <;> rfl
    split
    · unfold M.voted; split
      · rfl
      · dsimp only; split <;> rfl
    split
    · unfold M.append
      dsimp only
      split
      · rfl
      split
      · rfl
      split
      · rfl
      split
      · split <;> rfl
      · rfl
    · unfold M.appended
      split
      · rfl
      · dsimp only
        split
        · rfl
        · split <;> exact (M.advance_same _).2.2.2.2
  revert key
  generalize (if m.kind = 0 then M.vote r1 m else if m.kind = 1 then M.voted r1 m else if m.kind = 2 then M.append r1 m else M.appended r1 m) = ro
  obtain ⟨r2, o⟩ := ro
  exact fun key => key
theorem M.tick_fr (r : Rep) : (M.tick r).2.fr ≤ 1000000 := by
  unfold M.tick
  split
  · show (0 : Int) ≤ _; omega
  · split <;> (show (0 : Int) ≤ _; omega)
theorem M.tick_id (r : Rep) : (M.tick r).1.id = r.id := by
  unfold M.tick
  split
  · rfl
  · split <;> rfl
theorem M.propose_fr (r : Rep) (d : ByteArray) (h : r.log.length ≤ 4000) : (M.propose r d).2.2.2.fr ≤ 1000000 := by
  unfold M.propose
  split
  · show (0 : Int) ≤ _; omega
  split
  · show (0 : Int) ≤ _; omega
  split
  · show (0 : Int) ≤ _; omega
  · show ((r.log ++ [_]).length : Int) ≤ _; simp; omega
theorem M.propose_id (r : Rep) (d : ByteArray) : (M.propose r d).1.id = r.id := by
  unfold M.propose
  split
  · rfl
  split
  · rfl
  split <;> rfl

section
variable {w W : World} {cb : Nat} {x x1 : M.Cl} {L L1 : Lay}

set_option linter.unusedSimpArgs false in
set_option maxRecDepth 10000 in
set_option maxHeartbeats 1600000 in
theorem arrive_calls (h : ClOk w cb x L) {g : M.Gh} (P : M.PInv x g) (n : Int) (keep : Bool) :
    Calls Try.prog 31 #[ptrV cb, .int .i64 n, .bool keep] w (ClPost w cb L (M.arrive x n keep)) := by
  have HH := Lib.hid h
  have HP := Lib.hid P
  obtain ⟨c0, c1, c2⟩ := h.cells
  have hm300 := h.mN
  unfold ptrV
  clear h P
  by_cases h0 : x.sent.length = 0
  · have hE : M.arrive x n keep = x := by unfold M.arrive; rw [if_pos h0]
    have HE := Lib.hid hE
    have d0 : ((x.sent.length : Int) == 0) = true := by simp [h0]
    clear hE h0
    go_enter Try.func31, Try.ntmps31
    go_wp2_with fail
    go_ret
    exact ⟨L, rfl, by rw [HE.out]; exact HH.out, fun _ _ h => h, Fr.refl _ _⟩
  · have d0 : ((x.sent.length : Int) == 0) = false := by rw [beq_eq_false_iff_ne]; omega
    have hpk := pick_bd n x.sent.length (by omega)
    obtain ⟨k, hk⟩ := Int.eq_ofNat_of_zero_le hpk.1
    have hkl : k < x.sent.length := by omega
    obtain ⟨ps, e1, e2, e3⟩ := HH.out.sent
    have hpl : ps.length = x.sent.length := by rw [e1, List.length_map]
    rw [← hpl] at e2 hkl hm300 c2 d0
    have hsent : x.sent.getD k M.zMsg = ps[k].1 := by
      rw [e1, List.getD_eq_getElem?_getD, List.getElem?_eq_getElem (by rw [List.length_map]; exact hkl), List.getElem_map]; rfl
    obtain ⟨gm, hgm⟩ : ∃ gm, L.mA = some ⟨gm, 0, none⟩ := by
      cases hA : L.mA with
      | none => rw [hA] at e2; have := own_nil e2 rfl; omega
      | some ad =>
        rw [hA] at e2
        obtain ⟨g', off, sp⟩ := ad
        obtain ⟨rfl, rfl, _⟩ := own_cell e2 rfl
        exact ⟨g', rfl⟩
    rw [hgm] at e2 c2
    have hat := fun j (hj : j < 9) => (own_cell e2 rfl).2.2.2.2 (k * 9 + j) _ ((msgsCells_at ps k hkl j hj).trans (List.getElem?_eq_getElem (by simpa [msgCells] using hj)))
    have hp3 := e3 ps[k] (List.getElem_mem hkl)
    have hgk := (own_kind e2 rfl).lt
    have HKL := Lib.hid hkl
    generalize hpk2 : ps[k] = p at hat hp3 hsent
    obtain ⟨m, pv⟩ := p
    obtain ⟨pA, pc, hpv⟩ := own_form hp3.1
    dsimp only at hpv
    subst hpv
    have y0 := hat 0 (by decide)
    have y1 := hat 1 (by decide)
    have y2 := hat 2 (by decide)
    have y3 := hat 3 (by decide)
    have y4 := hat 4 (by decide)
    have y5 := hat 5 (by decide)
    have y6 := hat 6 (by decide)
    have y7 := hat 7 (by decide)
    have y8 := hat 8 (by decide)
    simp only [msgCells, List.getElem_cons_zero, List.getElem_cons_succ, Nat.add_zero] at y0 y1 y2 y3 y4 y5 y6 y7 y8
    have hpt := pick_bd m.to 3 (by omega)
    obtain ⟨i, hi⟩ := Int.eq_ofNat_of_zero_le hpt.1
    have hi3 : i < 3 := by omega
    have hi3I : (i : Int) < 3 := by omega
    have hE : M.arrive x n keep = M.done { x with r := x.r.set i (M.hear (M.Rf x i) m).1, sent := if keep then x.sent else x.sent.take k ++ x.sent.drop (k + 1) } i (M.hear (M.Rf x i) m).2 := by
      unfold M.arrive
      rw [if_neg h0]
      dsimp only
      rw [hk, Int.toNat_natCast, hsent]
      dsimp only
      rw [hi, Int.toNat_natCast]
      cases keep <;> rfl
    have HE := Lib.hid hE
    have HK := Lib.hid hk
    have HI := Lib.hid hi
    have HGM := Lib.hid hgm
    have HE1 := Lib.hid e1
    have HE2 := Lib.hid e2
    have HE3 := Lib.hid e3
    have HPL := Lib.hid hpl
    have HP3 := Lib.hid hp3
    have hlen1 : (1 : Int) ≤ (ps.length : Int) := by omega
    have hkI : (k : Int) < (ps.length : Int) := by omega
    clear hE hk hi hgm e1 e2 e3 hpk hpt hat hp3 hsent hpl hpk2 h0 hkl
    go_enter Try.func31, Try.ntmps31
    go_wp2_with fail
    refine (pick_calls n (ps.length : Int) _ hlen1 (by omega)).mono ?_
    rintro e w' ⟨rfl, rfl⟩
    have hpe : M.pick n (ps.length : Int) = k := by rw [HPL.out]; exact HK.out
    rw [hpe]
    clear hpe
    go_upto_region 5 with fail
    refine wp_world (fun W => ClOk W cb x L ∧ Below w.heap.size w W ∧ W.heap[w.heap.size]? = some (.cells (msgCells m (.slice pA m.recs.length pc)).toArray 37)) ⟨HH.out.alloc _, (Below.refl _ _).alloc (Nat.le_refl _) _, heap_alloc_new w _⟩ ?_
    clear c0 c1 c2 y0 y1 y2 y3 y4 y5 y6 y7 y8 hgk
    rintro W ⟨hW, hF, hB⟩
    have c2 := hW.cells.2.2
    rw [HGM.out, ← HPL.out] at c2
    have HW := Lib.hid hW
    have HBW := Lib.hid hF
    have HF : Hid (Fr (ClS cb L) w W) := Fr.of_below hF
    have HB := Lib.hid hB
    have hcl := hW.kind.lt
    have HCF := Lib.hid (free_blk hW.blk 2)
    clear hW hF hB
    obtain ⟨s1, hs1⟩ : ∃ s1, s1 = (if keep = true then x.sent else x.sent.take k ++ x.sent.drop (k + 1)) := ⟨_, rfl⟩
    have HS1 := Lib.hid hs1
    clear hs1
    go_upto_if 30 with (fail)
    go_cut [2] (fun _ wx => ∃ L1, ClOk wx cb { x with sent := s1 } L1 ∧ (∀ q, q < w.heap.size → ClS cb L1 q → ClS cb L q) ∧ Fr (ClS cb L) w wx ∧ wx.heap[w.heap.size]? = some (.cells (msgCells m (.slice pA m.recs.length pc)).toArray 37) ∧ rowsX L1 = rowsX L)
    case first =>
      cases hkp : keep
      · obtain ⟨ps', q1, q2, q3⟩ := HW.out.sent
        have hps : ps'.length = ps.length := by rw [HPL.out, q1, List.length_map]
        have hown : W.ownsRow 0 37 9 (.slice (some ⟨gm, 0, none⟩) ps.length L.mc) ps.length (msgsCells ps) := own_below HE2.out HBW.out (Nat.le_refl _)
        obtain ⟨t1, ht1, hrun1⟩ := msgs_take_slice (Sl.of_own hown) (k : Int) (by omega) (by omega)
        obtain ⟨t2, ht2, hrun2⟩ := msgs_drop_slice (Sl.of_own hown) ((k : Int) + 1) (by omega) (by omega)
        rw [Int.toNat_natCast] at ht1
        rw [show ((k : Int) + 1).toNat = k + 1 from by omega] at ht2
        have hwr : IntKind.i64.wrap ((k : Int) + 1) = (k : Int) + 1 := IntWalk.i64_in _ (by omega)
        have hpr : ∀ p ∈ ps.take k ++ ps.drop (k + 1), W.ownsRow 0 55 2 p.2 p.1.recs.length (recsCells p.1.recs) ∧ ∀ q, p.2.ownBlock = some q → ¬ rowsX L q := fun p hp =>
          ⟨own_below (HE3.out p (M.mem_cut _ _ _ hp)).1 HBW.out (Nat.le_refl _), (HE3.out p (M.mem_cut _ _ _ hp)).2⟩
        have hone : ∀ l : List (Msg × Value), (∀ p ∈ l, p ∈ ps) → ∀ u ∈ msgsCells l, u.oneCell' = true := fun l hl => msgsCells_one l fun p hp => by
          obtain ⟨a, b, h⟩ := own_form (HE3.out p (hl p hp)).1
          rw [h]; rfl
        have ho1 := hone (ps.take k) (fun p hp => List.mem_of_mem_take hp)
        have ho2 := hone (ps.drop (k + 1)) (fun p hp => List.mem_of_mem_drop hp)
        have hl1 : (ps.take k).length ≤ 300 := by rw [List.length_take]; omega
        have hl2 : (ps.drop (k + 1)).length ≤ 300 := by rw [List.length_drop]; omega
        have hmap : (ps.take k ++ ps.drop (k + 1)).map Prod.fst = x.sent.take k ++ x.sent.drop (k + 1) := by rw [HE1.out]; simp
        have hl3 : (ps.take k ++ ps.drop (k + 1)).length ≤ 300 := by rw [List.length_append, List.length_take, List.length_drop]; omega
        have HPR := Lib.hid hpr
        have HMAP := Lib.hid hmap
        have HO1 := Lib.hid ho1
        have HO2 := Lib.hid ho2
        have HL3 := Lib.hid hl3
        clear hpr hone hmap ho1 ho2 hl3 hown
        generalize ps.take k = l1 at *
        generalize ps.drop (k + 1) = l2 at *
        have HT1 := Lib.hid ht1
        have HT2 := Lib.hid ht2
        have hS : ∀ w', Below W.heap.size W w' → (Below W.heap.size W w' ∧ w'.cell? ⟨cb, 2, none⟩ = some (.slice (some ⟨gm, 0, none⟩) ps.length L.mc)) := fun w' hb => ⟨hb, (hb.cell (p := ⟨cb, 2, none⟩) hcl).trans c2⟩
        have HSS := Lib.hid hS
        have hB2 := HB.out
        have hbl := lt_blk hB2
        clear ht1 ht2 hS c2 q1 q2 q3 hps hB2
        go_upto_region 6 with fail
        refine wp_region_noPanic ?_
        refine wp_region_last (S := fun w' => Below W.heap.size W w' ∧ w'.cell? ⟨cb, 2, none⟩ = some (.slice (some ⟨gm, 0, none⟩) ps.length L.mc)) (by kernel_rfl) (by kernel_rfl) (last_split _ (by kernel_rfl)) (HSS.out _ (Below.refl _ _).drew) (fun hHeld => ?_)
        simp only [List.pop_toArray, List.dropLast_cons_cons, List.dropLast_singleton, List.back?_toArray, List.getLast?_cons_cons, List.getLast?_singleton, Option.getD_some]
        refine wpAnyH_take (i := 0) (v := ?_) rfl (by kernel_rfl) (by kernel_rfl) (by kernel_rfl) (fun _ _ _ h => h) (Or.inl ⟨by rfl, ?_⟩) (by assumption) ?_
        rotate_left 1
        · intro w' hSw
          (try dsimp only at hSw)
          go_simp
          (try with_reducible rfl)
        (try simp only [Act.put, List.setIfInBounds_toArray, List.set_cons_zero, List.set_cons_succ])
        refine wpAnyH_take (i := 2) (v := ?_) rfl (by kernel_rfl) (by kernel_rfl) (by kernel_rfl) (fun _ _ _ h => h) (Or.inl ⟨by rfl, ?_⟩) (by assumption) ?_
        rotate_left 1
        · intro w' hSw
          (try dsimp only at hSw)
          go_simp
          (try with_reducible rfl)
        (try simp only [Act.put, List.setIfInBounds_toArray, List.set_cons_zero, List.set_cons_succ])
        refine wpAnyH_take (i := 3) (v := ?_) rfl (by kernel_rfl) (by kernel_rfl) (by kernel_rfl) (fun _ _ _ h => h) (Or.inl ⟨by rfl, ?_⟩) (by assumption) ?_
        rotate_left 1
        · intro w' hSw
          (try dsimp only at hSw)
          go_simp
          (try with_reducible rfl)
        (try simp only [Act.put, List.setIfInBounds_toArray, List.set_cons_zero, List.set_cons_succ])
        refine wpAnyH_take (i := 4) (v := ?_) rfl (by kernel_rfl) (by kernel_rfl) (by kernel_rfl) (fun _ _ _ h => h) (Or.inl ⟨by rfl, ?_⟩) (by assumption) ?_
        rotate_left 1
        · intro w' hSw
          (try dsimp only at hSw)
          go_simp
          (try with_reducible rfl)
        (try simp only [Act.put, List.setIfInBounds_toArray, List.set_cons_zero, List.set_cons_succ])
        refine wpAnyH_take (i := 5) (v := ?_) rfl (by kernel_rfl) (by kernel_rfl) (by kernel_rfl) (fun _ _ _ h => h) (Or.inl ⟨by rfl, ?_⟩) (by assumption) ?_
        rotate_left 1
        · intro w' hSw
          (try dsimp only at hSw)
          go_simp
          (try with_reducible rfl)
        (try simp only [Act.put, List.setIfInBounds_toArray, List.set_cons_zero, List.set_cons_succ])
        refine wpAnyH_take (i := 6) (v := ?_) rfl (by kernel_rfl) (by kernel_rfl) (by kernel_rfl) (fun _ _ _ h => h) (Or.inl ⟨by rfl, ?_⟩) (by assumption) ?_
        rotate_left 1
        · intro w' hSw
          (try dsimp only at hSw)
          go_simp
          (try with_reducible rfl)
        (try simp only [Act.put, List.setIfInBounds_toArray, List.set_cons_zero, List.set_cons_succ])
        refine wpAnyH_take (i := 7) (v := ?_) rfl (by kernel_rfl) (by kernel_rfl) (by kernel_rfl) (fun _ _ _ h => h) (Or.inl ⟨by rfl, ?_⟩) (by assumption) ?_
        rotate_left 1
        · intro w' hSw
          (try dsimp only at hSw)
          go_simp
          (try with_reducible rfl)
        (try simp only [Act.put, List.setIfInBounds_toArray, List.set_cons_zero, List.set_cons_succ])
        refine wpAnyH_take (i := 9) (v := ?_) rfl (by kernel_rfl) (by kernel_rfl) (by kernel_rfl) (fun _ _ _ h => h) (Or.inl ⟨by rfl, ?_⟩) (by assumption) ?_
        rotate_left 1
        · intro w' hSw
          (try dsimp only at hSw)
          go_simp
          (try with_reducible rfl)
        (try simp only [Act.put, List.setIfInBounds_toArray, List.set_cons_zero, List.set_cons_succ])
        refine wpAnyH_take (i := 10) (v := ?_) rfl (by kernel_rfl) (by kernel_rfl) (by kernel_rfl) (fun _ _ _ h => h) (Or.inl ⟨by rfl, ?_⟩) (by assumption) ?_
        rotate_left 1
        · intro w' hSw
          (try dsimp only at hSw)
          go_simp
          (try with_reducible rfl)
        (try simp only [Act.put, List.setIfInBounds_toArray, List.set_cons_zero, List.set_cons_succ])
        refine wpAnyH_take (i := 11) (v := ?_) rfl (by kernel_rfl) (by kernel_rfl) (by kernel_rfl) (fun _ _ _ h => h) (Or.inl ⟨by rfl, ?_⟩) (by assumption) ?_
        rotate_left 1
        · intro w' hSw
          (try dsimp only at hSw)
          go_simp
          (try with_reducible rfl)
        (try simp only [Act.put, List.setIfInBounds_toArray, List.set_cons_zero, List.set_cons_succ])
        refine wpAnyH_take (i := 12) (v := ?_) rfl (by kernel_rfl) (by kernel_rfl) (by kernel_rfl) (fun _ _ _ h => h) (Or.inl ⟨by rfl, ?_⟩) (by assumption) ?_
        rotate_left 1
        · intro w' hSw
          (try dsimp only at hSw)
          go_simp
          (try with_reducible rfl)
        (try simp only [Act.put, List.setIfInBounds_toArray, List.set_cons_zero, List.set_cons_succ])
        refine wpAnyH_take (i := 13) (v := ?_) rfl (by kernel_rfl) (by kernel_rfl) (by kernel_rfl) (fun _ _ _ h => h) (Or.inl ⟨by rfl, ?_⟩) (by assumption) ?_
        rotate_left 1
        · intro w' hSw
          (try dsimp only at hSw)
          go_simp
          (try with_reducible rfl)
        (try simp only [Act.put, List.setIfInBounds_toArray, List.set_cons_zero, List.set_cons_succ])
        refine wpAnyH_take (i := 14) (v := ?_) rfl (by kernel_rfl) (by kernel_rfl) (by kernel_rfl) (fun _ _ _ h => h) (Or.inl ⟨by rfl, ?_⟩) (by assumption) ?_
        rotate_left 1
        · intro w' hSw
          (try dsimp only at hSw)
          go_simp
          (try with_reducible rfl)
        (try simp only [Act.put, List.setIfInBounds_toArray, List.set_cons_zero, List.set_cons_succ])
        refine wpAnyH_take (i := 15) (v := ?_) rfl (by kernel_rfl) (by kernel_rfl) (by kernel_rfl) (fun _ _ _ h => h) (Or.inl ⟨by rfl, ?_⟩) (by assumption) ?_
        rotate_left 1
        · intro w' hSw
          (try dsimp only at hSw)
          go_simp
          (try with_reducible rfl)
        (try simp only [Act.put, List.setIfInBounds_toArray, List.set_cons_zero, List.set_cons_succ])
        refine wpAnyH_ready (rs := [1]) (by kernel_rfl) (by simp) ?_
        refine AllReadyH.cons rfl (fun K hK => ?_) AllReadyH.nil
        go_simp
        have hbA : Below W.heap.size W (W.drew.alloc (.cells #[] 37)) := (Below.refl _ _).drew.alloc (Nat.le_refl _) _
        refine hK.out _ _ (HSS.out _ hbA) (fun hHeld2 => ?_)
        clear hK K
        (try simp only [Act.put, List.setIfInBounds_toArray, List.set_cons_zero, List.set_cons_succ])
        refine wpAnyH_ready (rs := [8]) (by kernel_rfl) (by simp) ?_
        refine AllReadyH.cons rfl (fun K hK => ?_) AllReadyH.nil
        have hq1 : (W.alloc (.cells #[] 37)).drew.heap.size = W.heap.size + 1 := by show (W.alloc _).heap.size = _; simp
        have hnew : ((W.alloc (.cells #[] 37)).drew).ownsRow W.heap.size 37 9 (.slice (some ⟨W.heap.size, 0, none⟩) 0 0) 0 (msgsCells []) := own_new W 37 9
        refine step_append_sl rfl _ _ 27 (by rfl) W.heap.size 37 _ 9 88 Try.underlying27 info37 rfl (by decide) _ 0 (msgsCells []) (by rfl) hnew (0 ≤ ·) t1 l1.length (msgsCells l1) (by rfl) (HT1.out.below (w' := (W.alloc (.cells #[] 37)).drew) hbA (Nat.le_refl _)) HO1.out (by simp only [maxLen]; omega) (by omega) (by omega) ?_
        intro v1 w1 hown1 hg1 hat1
        obtain ⟨A1, n1, rfl⟩ := own_form hown1
        have hb1 : Below W.heap.size W w1 := hbA.grown (w := (W.alloc (.cells #[] 37)).drew) hg1 (by omega) (fun q hq => Nat.le_of_eq (Option.some.inj hq))
        refine hK.out _ _ (HSS.out _ hb1) (fun hHeld3 => ?_)
        clear hK K
        (try simp only [Act.put, List.setIfInBounds_toArray, List.set_cons_zero, List.set_cons_succ])
        refine wpAnyH_ready (rs := [16]) (by kernel_rfl) (by simp) ?_
        refine AllReadyH.cons rfl (fun K hK => ?_) AllReadyH.nil
        have hown1' : w1.ownsRow W.heap.size 37 9 (.slice A1 (0 + l1.length) n1) (0 + l1.length) (msgsCells l1) := hown1
        have hs1 := hb1.size
        refine step_append_sl rfl _ _ 27 (by rfl) W.heap.size 37 _ 9 88 Try.underlying27 info37 rfl (by decide) _ (0 + l1.length) (msgsCells l1) (by rfl) hown1' (0 ≤ ·) t2 l2.length (msgsCells l2) (by rfl) (HT2.out.below hb1 (Nat.le_refl _)) HO2.out (by simp only [maxLen]; omega) (by omega) (by omega) ?_
        intro v2 w2 hown2 hg2 hat2
        obtain ⟨A2, n2, rfl⟩ := own_form hown2
        have hb2 : Below W.heap.size W w2 := hb1.grown hg2 hs1 (fun q hq => (own_lt hown1' hq).1)
        refine hK.out _ _ (HSS.out _ hb2) (fun hHeld4 => ?_)
        clear hK K
        (try simp only [Act.put, List.setIfInBounds_toArray, List.set_cons_zero, List.set_cons_succ])
        refine wpAnyH_take (i := 17) (v := ?_) rfl (by kernel_rfl) (by kernel_rfl) (by kernel_rfl) (fun _ _ _ h => h) (Or.inl ⟨by rfl, ?_⟩) (by assumption) ?_
        rotate_left 1
        · intro w' hSw
          (try dsimp only at hSw)
          go_simp
          (try with_reducible rfl)
        (try simp only [Act.put, List.setIfInBounds_toArray, List.set_cons_zero, List.set_cons_succ])
        refine wpAnyH_take (i := 18) (v := ?_) rfl (by kernel_rfl) (by kernel_rfl) (by kernel_rfl) (fun _ _ _ h => h) (Or.inl ⟨by rfl, ?_⟩) (by assumption) ?_
        rotate_left 1
        · intro w' hSw
          (try dsimp only at hSw)
          go_simp
          (try with_reducible rfl)
        (try simp only [Act.put, List.setIfInBounds_toArray, List.set_cons_zero, List.set_cons_succ])
        refine wpAnyH_done (by kernel_rfl) ?_ _
        unfold LastQ
        have x2 := hHeld4.2
        have xf2 : w2.frozen? ⟨cb, 2, none⟩ = false := (hb2.frozen (p := ⟨cb, 2, none⟩) hcl).trans HCF.out
        go_simp
        refine NoPanic.normal ?_
        go_wp2_with fail
        go_meet
        case rel =>
          have hn0 : l1.length + l2.length = (l1 ++ l2).length := by simp
          have hown3 : w2.ownsRow W.heap.size 37 9 (.slice A2 (l1 ++ l2).length n2) (l1 ++ l2).length (msgsCells (l1 ++ l2)) := by
            rw [← hn0, msgsCells_append]
            simpa using hown2
          have hok := HW.out.putM hb2 HPR.out hown3 HL3.out
          have hs1 : s1 = x.sent.take k ++ x.sent.drop (k + 1) := by rw [HS1.out, hkp]; rfl
          rw [HMAP.out, ← hs1] at hok
          rw [hn0]
          have hws := HBW.out.size
          refine ⟨_, hok, fun q hq hc => ?_, (HF.out.trans (Fr.of_below hb2)).setCell (p := ⟨cb, 2, none⟩) (.inl (.inl rfl)) _, (other_blk (by show w.heap.size ≠ cb; have := HH.out.kind.lt; omega)).trans ((hb2.block _ hbl).trans HB.out), rfl⟩
          rcases hc with hc | hc | hc | ⟨ad, e1, e2⟩ | hc
          · exact .inl hc
          · exact .inr (.inl hc)
          · exact .inr (.inr (.inl hc))
          · change A2 = some ad at e1
            have := (own_lt hown3 (k := ad.block) (by rw [e1]; rfl)).1
            omega
          · exact .inr (.inr (.inr (.inr hc)))
      · have d1 : (!keep) = false := by rw [hkp]; rfl
        go_wp2_with fail
        go_meet
        case rel =>
          have hs1 : s1 = x.sent := by rw [HS1.out, hkp]; rfl
          rw [hs1]
          exact ⟨L, HW.out, fun _ _ h => h, HF.out, HB.out, rfl⟩
    case rest =>
      obtain ⟨L1, hW1, hC1, hF1, hB1, hX1⟩ := hcut
      clear HW HF HB HCF c2 hcl HBW
      have hsub : ∀ q ∈ s1, q ∈ x.sent := fun q hq => by
        rw [HS1.out] at hq
        split at hq
        · exact hq
        · exact M.mem_cut _ _ _ hq
      have hP1 : M.PInv { x with sent := s1 } g := M.pinv_sub HP.out hsub
      obtain ⟨c0, c1, c2⟩ := hW1.cells
      have r0 := hW1.rcell hi3
      unfold ptrV at r0
      have hcl := hW1.kind.lt
      have hrl := hW1.rkind.lt
      have hbl := lt_blk hB1
      have y0 := cell_blk hB1 0
      have y1 := cell_blk hB1 1
      have y2 := cell_blk hB1 2
      have y3 := cell_blk hB1 3
      have y4 := cell_blk hB1 4
      have y5 := cell_blk hB1 5
      have y6 := cell_blk hB1 6
      have y7 := cell_blk hB1 7
      have y8 := cell_blk hB1 8
      simp only [msgCells, List.getElem?_cons_succ, List.getElem?_cons_zero] at y0 y1 y2 y3 y4 y5 y6 y7 y8
      have hsl : Sl wc (· ≠ L1.bs i) 2 (.slice pA m.recs.length pc) m.recs.length (recsCells m.recs) := by
        have h1 : wc.ownsRow 0 55 2 (.slice pA m.recs.length pc) m.recs.length (recsCells m.recs) := own_fr HP3.out.1 hF1 (fun q hq hc => by
          have hk := own_kind HP3.out.1 hq
          rcases hc with hc | hc | hc | ⟨ad, e1, e2⟩ | ⟨j, hj, hc | ⟨ad, e1, e2⟩⟩
          · exact hk.ne HH.out.kind (by decide) hc
          · exact hk.ne HH.out.rkind (by decide) hc
          · exact hk.ne HH.out.skind (by decide) hc
          · exact hk.ne (HH.out.mkind e1) (by decide) e2.symm
          · exact hk.ne (HH.out.bkind hj) (by decide) hc
          · exact HP3.out.2 q hq ⟨j, hj, ad, e1, e2⟩)
        refine ⟨(Sl.of_own h1).1, (Sl.of_own h1).2.1, pA, pc, rfl, (own_cap h1).1, by have := (own_cap h1).2; simp only [maxLen] at this; omega, ?_⟩
        cases pA with
        | none => exact .inl (own_nil h1 rfl).1
        | some ad =>
          obtain ⟨q, off, sp⟩ := ad
          obtain ⟨rfl, rfl, _, q2, q3⟩ := own_cell h1 rfl
          exact .inr ⟨q, 0, rfl, (own_kind h1 rfl).ne (hW1.bkind hi3) (by decide), q2, fun j u hu => by rw [Nat.zero_add]; exact q3 j u hu⟩
      have HSL := Lib.hid hsl
      have HW1 := Lib.hid hW1
      have HC1 := Lib.hid hC1
      have HF1 := Lib.hid hF1
      have HP1 := Lib.hid hP1
      have HBK : Hid (Kind wc w.heap.size 37) := ⟨_, _, hB1⟩
      clear hW1 hC1 hF1 hB1 hX1 hsub hP1 hsl c1 c2 HP HP3 HE1 HE2 HE3
      go_wp2_with fail
      refine (pick_calls m.to 3 _ (by decide) (by decide)).mono ?_
      rintro e w' ⟨rfl, rfl⟩
      rw [HI.out]
      go_upto_region 8 with fail
      have hcR : ∀ {q T}, Kind wc q T → T ≠ 76 → T ≠ 55 → ¬ RepS (L1.bs i) (L1.As i) q := fun hk h1 h2 e => by
        rcases e with rfl | ⟨ad, e1, rfl⟩
        · exact hk.ne (HW1.out.bkind hi3) h1 rfl
        · exact hk.ne (HW1.out.akind hi3 e1) h2 rfl
      have hS : ∀ w', Fr (RepS (L1.bs i) (L1.As i)) wc w' → (w'.cell? ⟨cb, 0, none⟩ = some (.slice (some ⟨L1.rA, 0, none⟩) 3 L1.rc) ∧ w'.cell? ⟨L1.rA, i, none⟩ = some (.pointer (some ⟨L1.bs i, 0, none⟩)) ∧
          w'.cell? ⟨w.heap.size, 0, none⟩ = some (.int .i64 m.kind) ∧ w'.cell? ⟨w.heap.size, 1, none⟩ = some (.int .i64 m.fr) ∧ w'.cell? ⟨w.heap.size, 2, none⟩ = some (.int .i64 m.to) ∧ w'.cell? ⟨w.heap.size, 3, none⟩ = some (.int .i64 m.term) ∧ w'.cell? ⟨w.heap.size, 4, none⟩ = some (.int .i64 m.index) ∧
          w'.cell? ⟨w.heap.size, 5, none⟩ = some (.int .i64 m.prev) ∧ w'.cell? ⟨w.heap.size, 6, none⟩ = some (.int .i64 m.commit) ∧ w'.cell? ⟨w.heap.size, 7, none⟩ = some (.bool m.yes) ∧ w'.cell? ⟨w.heap.size, 8, none⟩ = some (.slice pA m.recs.length pc)) := fun w' hf =>
        have hc := fun j u (hu : wc.cell? ⟨cb, j, none⟩ = u) => (World.cell?_of_block (w := wc) (hf.block cb hcl (hcR HW1.out.kind (by decide) (by decide)))).trans hu
        have hr := fun j u (hu : wc.cell? ⟨L1.rA, j, none⟩ = u) => (World.cell?_of_block (w := wc) (hf.block L1.rA hrl (hcR HW1.out.rkind (by decide) (by decide)))).trans hu
        have hb := fun j u (hu : wc.cell? ⟨w.heap.size, j, none⟩ = u) => (World.cell?_of_block (w := wc) (hf.block w.heap.size hbl (hcR HBK.out (by decide) (by decide)))).trans hu
        ⟨hc _ _ c0, hr _ _ r0, hb _ _ y0, hb _ _ y1, hb _ _ y2, hb _ _ y3, hb _ _ y4, hb _ _ y5, hb _ _ y6, hb _ _ y7, hb _ _ y8⟩
      have HSS := Lib.hid hS
      clear hS hcR c0 r0 y0 y1 y2 y3 y4 y5 y6 y7 y8
      refine wp_region_noPanic ?_
      refine wp_region_last2 (S := fun w' => w'.cell? ⟨cb, 0, none⟩ = some (.slice (some ⟨L1.rA, 0, none⟩) 3 L1.rc) ∧ w'.cell? ⟨L1.rA, i, none⟩ = some (.pointer (some ⟨L1.bs i, 0, none⟩)) ∧
          w'.cell? ⟨w.heap.size, 0, none⟩ = some (.int .i64 m.kind) ∧ w'.cell? ⟨w.heap.size, 1, none⟩ = some (.int .i64 m.fr) ∧ w'.cell? ⟨w.heap.size, 2, none⟩ = some (.int .i64 m.to) ∧ w'.cell? ⟨w.heap.size, 3, none⟩ = some (.int .i64 m.term) ∧ w'.cell? ⟨w.heap.size, 4, none⟩ = some (.int .i64 m.index) ∧
          w'.cell? ⟨w.heap.size, 5, none⟩ = some (.int .i64 m.prev) ∧ w'.cell? ⟨w.heap.size, 6, none⟩ = some (.int .i64 m.commit) ∧ w'.cell? ⟨w.heap.size, 7, none⟩ = some (.bool m.yes) ∧ w'.cell? ⟨w.heap.size, 8, none⟩ = some (.slice pA m.recs.length pc)) (by kernel_rfl) (by kernel_rfl) (by kernel_rfl) (last_split2 _ (by kernel_rfl)) (HSS.out _ (Fr.refl _ _).drew) (fun hHeld => ?_)
      simp only [List.pop_toArray, List.dropLast_cons_cons, List.dropLast_singleton, List.back?_toArray, List.getLast?_cons_cons, List.getLast?_singleton, Option.getD_some]
      refine wpAnyH_take (i := 0) (v := ?_) rfl (by kernel_rfl) (by kernel_rfl) (by kernel_rfl) (fun _ _ _ h => h) (Or.inl ⟨by rfl, ?_⟩) (by assumption) ?_
      rotate_left 1
      · intro w' hSw
        (try dsimp only at hSw)
        go_simp
        (try with_reducible rfl)
      (try simp only [Act.put, List.setIfInBounds_toArray, List.set_cons_zero, List.set_cons_succ])
      refine wpAnyH_take (i := 1) (v := ?_) rfl (by kernel_rfl) (by kernel_rfl) (by kernel_rfl) (fun _ _ _ h => h) (Or.inl ⟨by rfl, ?_⟩) (by assumption) ?_
      rotate_left 1
      · intro w' hSw
        (try dsimp only at hSw)
        go_simp
        (try with_reducible rfl)
      (try simp only [Act.put, List.setIfInBounds_toArray, List.set_cons_zero, List.set_cons_succ])
      refine wpAnyH_take (i := 2) (v := ?_) rfl (by kernel_rfl) (by kernel_rfl) (by kernel_rfl) (fun _ _ _ h => h) (Or.inl ⟨by rfl, ?_⟩) (by assumption) ?_
      rotate_left 1
      · intro w' hSw
        (try dsimp only at hSw)
        go_simp
        (try with_reducible rfl)
      (try simp only [Act.put, List.setIfInBounds_toArray, List.set_cons_zero, List.set_cons_succ])
      refine wpAnyH_take (i := 3) (v := ?_) rfl (by kernel_rfl) (by kernel_rfl) (by kernel_rfl) (fun _ _ _ h => h) (Or.inl ⟨by rfl, ?_⟩) (by assumption) ?_
      rotate_left 1
      · intro w' hSw
        (try dsimp only at hSw)
        go_simp
        (try with_reducible rfl)
      (try simp only [Act.put, List.setIfInBounds_toArray, List.set_cons_zero, List.set_cons_succ])
      refine wpAnyH_take (i := 4) (v := ?_) rfl (by kernel_rfl) (by kernel_rfl) (by kernel_rfl) (fun _ _ _ h => h) (Or.inl ⟨by rfl, ?_⟩) (by assumption) ?_
      rotate_left 1
      · intro w' hSw
        (try dsimp only at hSw)
        go_simp
        (try with_reducible rfl)
      (try simp only [Act.put, List.setIfInBounds_toArray, List.set_cons_zero, List.set_cons_succ])
      refine wpAnyH_take (i := 5) (v := ?_) rfl (by kernel_rfl) (by kernel_rfl) (by kernel_rfl) (fun _ _ _ h => h) (Or.inl ⟨by rfl, ?_⟩) (by assumption) ?_
      rotate_left 1
      · intro w' hSw
        (try dsimp only at hSw)
        go_simp
        (try with_reducible rfl)
      (try simp only [Act.put, List.setIfInBounds_toArray, List.set_cons_zero, List.set_cons_succ])
      refine wpAnyH_take (i := 6) (v := ?_) rfl (by kernel_rfl) (by kernel_rfl) (by kernel_rfl) (fun _ _ _ h => h) (Or.inl ⟨by rfl, ?_⟩) (by assumption) ?_
      rotate_left 1
      · intro w' hSw
        (try dsimp only at hSw)
        go_simp
        (try with_reducible rfl)
      (try simp only [Act.put, List.setIfInBounds_toArray, List.set_cons_zero, List.set_cons_succ])
      refine wpAnyH_take (i := 7) (v := ?_) rfl (by kernel_rfl) (by kernel_rfl) (by kernel_rfl) (fun _ _ _ h => h) (Or.inl ⟨by rfl, ?_⟩) (by assumption) ?_
      rotate_left 1
      · intro w' hSw
        (try dsimp only at hSw)
        go_simp
        (try with_reducible rfl)
      (try simp only [Act.put, List.setIfInBounds_toArray, List.set_cons_zero, List.set_cons_succ])
      refine wpAnyH_take (i := 8) (v := ?_) rfl (by kernel_rfl) (by kernel_rfl) (by kernel_rfl) (fun _ _ _ h => h) (Or.inl ⟨by rfl, ?_⟩) (by assumption) ?_
      rotate_left 1
      · intro w' hSw
        (try dsimp only at hSw)
        go_simp
        (try with_reducible rfl)
      (try simp only [Act.put, List.setIfInBounds_toArray, List.set_cons_zero, List.set_cons_succ])
      refine wpAnyH_take (i := 9) (v := ?_) rfl (by kernel_rfl) (by kernel_rfl) (by kernel_rfl) (fun _ _ _ h => h) (Or.inl ⟨by rfl, ?_⟩) (by assumption) ?_
      rotate_left 1
      · intro w' hSw
        (try dsimp only at hSw)
        go_simp
        (try with_reducible rfl)
      (try simp only [Act.put, List.setIfInBounds_toArray, List.set_cons_zero, List.set_cons_succ])
      refine wpAnyH_ready (rs := [10]) (by kernel_rfl) (by simp) ?_
      refine AllReadyH.cons rfl (fun K hK => ?_) AllReadyH.nil
      clear hHeld
      go_simp
      show Calls Try.prog 23 #[.pointer (some ⟨L1.bs i, 0, none⟩), msgVal m (.slice pA m.recs.length pc)] _ _
      refine (hear_calls (HW1.out.drew.rep i hi3) m _ (HSL.out.below (Below.refl _ wc).drew (Nat.le_refl _))).mono ?_
      rintro e w2 ⟨A', cap', rv, sv, rfl, hR, hA, hO, hF⟩
      refine hK.out _ _ (HSS.out _ ((Fr.refl _ wc).drew.trans hF)) (fun hHeld2 => ?_)
      clear hK K hHeld2
      (try simp only [Act.put, List.setIfInBounds_toArray, List.set_cons_zero, List.set_cons_succ])
      have hdn := after_done HW1.out.drew HP1.out hi3 hR hA hO hF (M.hear_stores _ m) (M.hear_id _ m) (M.hear_fr _ m)
      unfold ptrV at hdn
      have HDN := Lib.hid hdn
      clear hdn hR hA hO hF
      refine wpAnyH_done (by kernel_rfl) ?_ _
      unfold LastQ
      go_simp
      refine HDN.out.mono ?_
      rintro e w3 hp
      have hp2 := ClPost.of hp HC1.out (HF1.out.trans (Fr.refl _ wc).drew)
      obtain ⟨L', rfl, q2, q3, q4⟩ := hp2
      have HQ2 := Lib.hid q2
      have HQ3 := Lib.hid q3
      have HQ4 := Lib.hid q4
      clear hp q2 q3 q4
      refine NoPanic.normal ?_
      go_wp2_with fail
      go_ret
      refine ⟨L', rfl, ?_, HQ3.out, HQ4.out⟩
      rw [HE.out, ← HS1.out]
      exact HQ2.out
end
end Go.Proofs.Ytodmihpmbecncaa
