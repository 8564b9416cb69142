/-
  The walks of the reference's SameMsg and SameOut, of two that are equal: true. No condition besides.
-/
import Derived.Test.YtodmihpmbecncaaQk
import Derived.Test.YtodmihpmbecncaaClJ
namespace Go.Proofs.Ytodmihpmbecncaa
open Go.RowKit

set_option maxRecDepth 10000 in
set_option maxHeartbeats 800000 in
theorem sameMsg_calls {ok ok' : Nat → Prop} {w : World} (m : Msg) (va vb : Value) (ha : Sl w ok 2 va m.recs.length (recsCells m.recs)) (hb : Sl w ok' 2 vb m.recs.length (recsCells m.recs)) :
    Calls Try.prog 54 #[msgVal m va, msgVal m vb] w fun e w' => e = .returned (.bool true) ∧ Below w.heap.size w w' := by
  obtain ⟨aA, ac, rfl⟩ := Sl.form ha
  obtain ⟨bA, bc, rfl⟩ := Sl.form hb
  have HB0 : Hid (Below w.heap.size w ((w.alloc (.cells (msgCells m (.slice aA m.recs.length ac)).toArray 37)).alloc (.cells (msgCells m (.slice bA m.recs.length bc)).toArray 37))) := ((Below.refl _ w).alloc (Nat.le_refl _) _).alloc (by simp) _
  have HA := Lib.hid (ha.below HB0.out (Nat.le_refl _))
  have HB := Lib.hid (hb.below HB0.out (Nat.le_refl _))
  clear ha hb
  unfold msgVal msgCells
  go_enter Try.func54, Try.ntmps54
  go_wp2_with (go_at_call 18; refine (same_calls m.recs m.recs _ _ HA.out HB.out).mono ?_; rw [sameB_eq rfl]; rintro e w2 ⟨rfl, hb2⟩)
  go_ret
  exact ⟨rfl, HB0.out.trans (hb2.mono HB0.out.size)⟩

set_option maxRecDepth 10000 in
set_option maxHeartbeats 1600000 in
theorem sameOut_calls {w : World} {base base' : Nat} (o : Out) (ra sa rb sb : Value) (ha : OutOk w base o ra sa) (hb : OutOk w base' o rb sb) (hn : o.send.length ≤ 1000000) :
    Calls Try.prog 27 #[outVal o ra sa, outVal o rb sb] w fun e w' => e = .returned (.bool true) ∧ Below w.heap.size w w' := by
  obtain ⟨rA, rc, rfl⟩ := own_form ha.recs
  obtain ⟨sA, sc, rfl⟩ := msgs_form ha.send
  obtain ⟨tA, tc, rfl⟩ := own_form hb.recs
  obtain ⟨uA, uc, rfl⟩ := msgs_form hb.send
  have HB0 : Hid (Below w.heap.size w ((w.alloc (.cells [.bool o.save, .int .i64 o.hard.term, .int .i64 o.hard.vote, .int .i64 o.fr, .slice rA o.recs.length rc, .slice sA o.send.length sc].toArray 45)).alloc (.cells [.bool o.save, .int .i64 o.hard.term, .int .i64 o.hard.vote, .int .i64 o.fr, .slice tA o.recs.length tc, .slice uA o.send.length uc].toArray 45))) := ((Below.refl _ w).alloc (Nat.le_refl _) _).alloc (by simp) _
  have HRA := Lib.hid ((Sl.of_own ha.recs).below HB0.out (Nat.le_refl _))
  have HRB := Lib.hid ((Sl.of_own hb.recs).below HB0.out (Nat.le_refl _))
  have HMA := Lib.hid ha.send
  have HMB := Lib.hid hb.send
  clear ha hb
  unfold outVal
  go_enter Try.func27, Try.ntmps27
  go_upto_region 3 with (go_at_call 18; refine (same_calls o.recs o.recs _ _ HRA.out HRB.out).mono ?_; rw [sameB_eq rfl]; rintro e w2 ⟨rfl, hb2⟩; have hB1 : Below w.heap.size w w2 := HB0.out.trans (hb2.mono HB0.out.size); have z0 : w2.heap[w.heap.size]? = some (.cells [.bool o.save, .int .i64 o.hard.term, .int .i64 o.hard.vote, .int .i64 o.fr, .slice rA o.recs.length rc, .slice sA o.send.length sc].toArray 45) := (hb2.block _ (by simp; omega)).trans ((Below.heap_alloc _ _ _ (by simp)).trans (heap_alloc_new w _)); have z1 : w2.heap[w.heap.size + 1]? = some (.cells [.bool o.save, .int .i64 o.hard.term, .int .i64 o.hard.vote, .int .i64 o.fr, .slice tA o.recs.length tc, .slice uA o.send.length uc].toArray 45) := (hb2.block _ (by simp)).trans (heap_alloc2_new w _ _); have q0 := cell_blk z0 5; have q1 := cell_blk z1 5; simp only [List.getElem?_cons_succ, List.getElem?_cons_zero] at q0 q1; have hl0 := lt_blk z0; have hl1 := lt_blk z1)
  have HB1 := Lib.hid hB1
  have HZ0 := Lib.hid z0
  have HZ1 := Lib.hid z1
  clear hB1 z0 z1 hb2
  go_wp2_with fail
  clear q0 q1 hl0 hl1
  go_loopw [5] (fun i wr => ∃ k : Nat, k ≤ o.send.length ∧ i = .int .i64 k ∧ Below w2.heap.size w2 wr) (fun i _ => o.send.length - (intOf i).toNat)
  case atStart => exact ⟨0, Nat.zero_le _, rfl, Below.refl _ _⟩
  case round =>
    obtain ⟨k, hk, rfl, hbr⟩ := hrel
    have y0 := cell_blk ((hbr.block _ (lt_blk HZ0.out)).trans HZ0.out) 5
    have y1 := cell_blk ((hbr.block _ (lt_blk HZ1.out)).trans HZ1.out) 5
    simp only [List.getElem?_cons_succ, List.getElem?_cons_zero] at y0 y1
    have hy0 : w.heap.size < wr.heap.size := Nat.lt_of_lt_of_le (lt_blk HZ0.out) hbr.size
    have hy1 : w.heap.size + 1 < wr.heap.size := Nat.lt_of_lt_of_le (lt_blk HZ1.out) hbr.size
    by_cases hlt : k < o.send.length
    · have hltI : (k : Int) < (o.send.length : Int) := by omega
      have hBr : Below w.heap.size w wr := HB1.out.trans (hbr.mono HB1.out.size)
      obtain ⟨psa, ea, owa, pra⟩ := HMA.out.below hBr
      obtain ⟨psb, eb, owb, prb⟩ := HMB.out.below hBr
      have la : psa.length = o.send.length := by rw [ea]; simp
      have lb : psb.length = o.send.length := by rw [eb]; simp
      have ka : k < psa.length := by omega
      have kb : k < psb.length := by omega
      have ema : psa[k].1 = o.send[k] := by simp [ea]
      have emb : psb[k].1 = o.send[k] := by simp [eb]
      have hra := pra psa[k] (List.getElem_mem ka)
      have hrb := prb psb[k] (List.getElem_mem kb)
      have hata := fun j (hj : j < 9) => msgsCells_at psa k ka j hj
      have hatb := fun j (hj : j < 9) => msgsCells_at psb k kb j hj
      rw [ema] at hra hata
      rw [emb] at hrb hatb
      generalize psa[k].2 = va at hra hata
      generalize psb[k].2 = vb at hrb hatb
      generalize o.send[k] = m at hra hata hrb hatb
      obtain ⟨vA, vc, rfl⟩ := own_form hra
      obtain ⟨uB, ud, rfl⟩ := own_form hrb
      cases sA with
      | none => have := (own_nil (n := psa.length) (by rw [← la] at owa; exact owa) rfl).1; omega
      | some ad =>
        cases uA with
        | none => have := (own_nil (n := psb.length) (by rw [← lb] at owb; exact owb) rfl).1; omega
        | some bd =>
          obtain ⟨g, off, sp⟩ := ad
          obtain ⟨g', off', sp'⟩ := bd
          rw [← la] at owa
          rw [← lb] at owb
          obtain ⟨rfl, rfl, _, hgl, hca⟩ := own_cell owa rfl
          obtain ⟨rfl, rfl, _, hgl', hcb⟩ := own_cell owb rfl
          have a0 := hca _ _ (hata 0 (by omega))
          have b0 := hcb _ _ (hatb 0 (by omega))
          have a1 := hca _ _ (hata 1 (by omega))
          have b1 := hcb _ _ (hatb 1 (by omega))
          have a2 := hca _ _ (hata 2 (by omega))
          have b2 := hcb _ _ (hatb 2 (by omega))
          have a3 := hca _ _ (hata 3 (by omega))
          have b3 := hcb _ _ (hatb 3 (by omega))
          have a4 := hca _ _ (hata 4 (by omega))
          have b4 := hcb _ _ (hatb 4 (by omega))
          have a5 := hca _ _ (hata 5 (by omega))
          have b5 := hcb _ _ (hatb 5 (by omega))
          have a6 := hca _ _ (hata 6 (by omega))
          have b6 := hcb _ _ (hatb 6 (by omega))
          have a7 := hca _ _ (hata 7 (by omega))
          have b7 := hcb _ _ (hatb 7 (by omega))
          have a8 := hca _ _ (hata 8 (by omega))
          have b8 := hcb _ _ (hatb 8 (by omega))
          simp only [Nat.add_zero] at a0 b0
          have HRA := Lib.hid (Sl.of_own hra)
          have HRB := Lib.hid (Sl.of_own hrb)
          have HBR := Lib.hid hbr
          clear ema emb hra hrb owa owb pra prb ea eb la lb ka kb hca hcb hata hatb hBr hbr
          go_upto_region 6 with fail
          refine wp_region_still_tail 10 (by kernel_rfl) (by kernel_rfl) ?_
          simp only [World.drew_eq, List.take_succ_cons, List.take_zero, List.drop_succ_cons, List.drop_zero]
          repeat still_step
          refine wpStill_nil ?_
          go_wp2_with fail
          show Calls Try.prog 54 #[msgVal m (.slice vA m.recs.length vc), msgVal m (.slice uB m.recs.length ud)] _ _
          refine (sameMsg_calls m _ _ (HRA.out.below (Below.refl _ wr).drew (Nat.le_refl _)) (HRB.out.below (Below.refl _ wr).drew (Nat.le_refl _))).mono ?_
          rintro e w3 ⟨rfl, hb3⟩
          have HB3 : Hid (Below w2.heap.size w2 w3) := HBR.out.drew.trans (hb3.mono HBR.out.size)
          clear hb3
          go_wp2_with fail
          go_roundw
          case rel => exact ⟨k + 1, by omega, by go_num, HB3.out⟩
          case measure => simp [intOf]; omega
    · have hltI : ¬ (k : Int) < (o.send.length : Int) := by omega
      go_wp2_with fail
      go_ret
      exact ⟨rfl, HB1.out.trans (hbr.mono HB1.out.size)⟩
end Go.Proofs.Ytodmihpmbecncaa
