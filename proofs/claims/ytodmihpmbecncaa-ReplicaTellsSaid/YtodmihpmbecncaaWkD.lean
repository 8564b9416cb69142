/-
  The walk of replica.all: it computes what the model says.
-/
import Derived.Test.YtodmihpmbecncaaWkC
namespace Go.Proofs.Ytodmihpmbecncaa
open Go.RowKit

theorem msgsCells_append (a b : List (Msg × Value)) : msgsCells (a ++ b) = msgsCells a ++ msgsCells b := by simp [msgsCells]
theorem msgsCells_one (ps : List (Msg × Value)) : (∀ p ∈ ps, p.2.oneCell' = true) → ∀ u ∈ msgsCells ps, u.oneCell' = true := by
  intro h u hu
  obtain ⟨p, hp, h2⟩ := List.mem_flatMap.1 hu
  simp only [msgCells, List.mem_cons, List.not_mem_nil, or_false] at h2
  rcases h2 with rfl | rfl | rfl | rfl | rfl | rfl | rfl | rfl | rfl <;> first | rfl | exact h p hp

theorem others_len (id : Int) : (M.others id).length = 2 := by unfold M.others; split <;> (try split) <;> rfl
theorem others_lt (id : Int) (k : Nat) : ∃ j : Nat, (M.others id).getD k 0 = (j : Int) ∧ j < 3 := by
  unfold M.others
  have hk : k = 0 ∨ k = 1 ∨ 2 ≤ k := by omega
  rcases hk with rfl | rfl | hk
  · split
    · exact ⟨1, rfl, by omega⟩
    · split <;> exact ⟨0, rfl, by omega⟩
  · split
    · exact ⟨2, rfl, by omega⟩
    · split
      · exact ⟨2, rfl, by omega⟩
      · exact ⟨1, rfl, by omega⟩
  · refine ⟨0, ?_, by omega⟩
    obtain ⟨k, rfl⟩ : ∃ q, k = q + 2 := ⟨k - 2, by omega⟩
    split
    · rfl
    · split <;> rfl

section
variable {w : World} {b : Nat} {r : Rep} {A : Option Addr} {cap : Nat}
set_option maxHeartbeats 800000 in
theorem all_calls (h : RepOk w b r A cap) (hn : ∀ j : Nat, j < 3 → 1 ≤ r.next.getD j 0 ∧ r.next.getD j 0 ≤ r.log.length + 1) :
    Calls Try.prog 33 #[.pointer (some ⟨b, 0, none⟩)] w fun e w' => ∃ sv, e = .returned sv ∧ MsgsOk w' w.heap.size sv (M.all r) ∧ Below w.heap.size w w' := by
  have hb := h.lt
  obtain ⟨id, hid⟩ := Int.eq_ofNat_of_zero_le h.wf.id0
  have hid3 : id < 3 := by have := h.wf.id2; omega
  have c0 := h.cells.1
  rw [hid] at c0
  have HI := Lib.hid hid
  have HN := Lib.hid hn
  clear hid hn
  go_enter Try.func33, Try.ntmps33
  go_wp2_with fail
  refine (others_calls id b w hid3 hb c0).mono ?_
  rintro e w1 ⟨g, rfl, hb1, hg0, hg1, hKg, hc⟩
  have HC := Lib.hid hc
  have HB1 := Lib.hid hb1
  clear hc hb1 c0
  go_wp2_with fail
  go_loopw [3, 9] (fun o i wr => ∃ k : Nat, k ≤ 2 ∧ i = .int .i64 k ∧ MsgsOk wr w.heap.size o (((M.others id).take k).map (M.entries r)) ∧ Below w.heap.size w wr ∧ g < wr.heap.size ∧ Kind wr g 3 ∧ (∀ k : Nat, k < 2 → wr.cell? ⟨g, k, none⟩ = some (.int .i64 ((M.others id).getD k 0)))) (fun _ i _ => 2 - (intOf i).toNat)
  case atStart => exact ⟨0, by omega, rfl, ⟨[], rfl, World.ownsRow_nil _ _ _ _, fun p hp => by cases hp⟩, HB1.out, hg1, hKg, HC.out⟩
  case round =>
    obtain ⟨k, hk, rfl, ⟨ps, hps, ho, hpr⟩, hb2, hgr, hKr, hc⟩ := hrel
    have hr2 : RepOk wr b r A cap := h.below hb2 (Nat.le_refl _)
    obtain ⟨oA, oc, rfl⟩ := own_form ho
    have HC2 := Lib.hid hc
    have HO := Lib.hid ho
    have HP := Lib.hid hpr
    have HPS := Lib.hid hps
    have HB2 := Lib.hid hb2
    have hlen : ps.length = k := by
      have := congrArg List.length hps
      simp only [List.length_map, List.length_take, others_len] at this
      omega
    have HL := Lib.hid hlen
    by_cases hlt : k < 2
    · have ck := hc k hlt
      obtain ⟨j, hj, hj3⟩ := others_lt id k
      rw [hj] at ck
      have HJ := Lib.hid hj
      clear hc ho hpr hps hb2 hlen hj
      go_wp2_with fail
      refine (entries_calls hr2 j hj3 (HN.out j hj3).1 (HN.out j hj3).2).mono ?_
      rintro e w2 ⟨rv, rfl, ho2, hb3⟩
      obtain ⟨rA, rc, rfl⟩ := own_form ho2
      generalize hm : M.entries r j = m at *
      unfold msgVal msgCells
      have hw2 : wr.heap.size ≤ w2.heap.size := hb3.size
      have hx : Below wr.heap.size wr (w2.alloc (.cells (msgCells m (.slice rA m.recs.length rc)).toArray 37)) := hb3.alloc hw2 _
      have HX := Lib.hid hx
      have HO3 := Lib.hid (own_below HO.out hx (Nat.le_refl _))
      have HS := Lib.hid (sl_one_msg w2 m (.slice rA m.recs.length rc))
      have HM := Lib.hid hm
      have HO2 := Lib.hid ho2
      have HBW := Lib.hid (HB2.out.size)
      clear hm ho2 hb3 hx
      go_wp2_with (at_builtin; refine wpList_append_sl _ rfl _ _ 27 rfl w.heap.size 37 _ 9 88 Try.underlying27 info37 rfl (by decide) _ ps.length (msgsCells ps) rfl HO3.out _ _ 1 _ rfl HS.out ?_ ?_ ?_ ?_ ?_; rotate_left 4; intro v' w3 hown hg hat; clear HO3 HS)
      · have hg : (w2.alloc (.cells (msgCells m (.slice rA m.recs.length rc)).toArray 37)).grownBy w3 (Value.slice oA ps.length oc).ownBlock := hg
        have hgb : ∀ q, (Value.slice oA ps.length oc).ownBlock = some q → w.heap.size ≤ q ∧ q < wr.heap.size := fun q hq => own_lt HO.out hq
        have hb4 : Below w.heap.size w w3 := (HB2.out.trans (HX.out.mono HBW.out)).grown hg (by simp; have := HBW.out; omega) (fun q hq => (hgb q hq).1)
        have hfr : Fr (fun q => (Value.slice oA ps.length oc).ownBlock = some q) wr w3 := (Fr.of_below HX.out).grown hg (fun q hq => .inl hq)
        go_roundw
        case rel =>
          have hl := HL.out
          have hgne : (Value.slice oA ps.length oc).ownBlock ≠ some g := fun hq => (own_kind HO.out hq).ne hKr (by decide) rfl
          refine ⟨k + 1, by omega, by go_num, ⟨ps ++ [(m, .slice rA m.recs.length rc)], ?_, ?_, ?_⟩, hb4, Nat.lt_of_lt_of_le hgr hfr.size, hKr.fr hfr hgne, fun q hq => ?_⟩
          · have hk' : k < (M.others id).length := by rw [others_len]; omega
            rw [List.take_succ_eq_append_getElem hk', List.map_append, List.map_append, HPS.out]
            have hj' : (M.others (id : Int))[k] = (j : Int) := by
              rw [← HJ.out, List.getD_eq_getElem?_getD, List.getElem?_eq_getElem hk']; rfl
            rw [hj']
            simp only [List.map_cons, List.map_nil, HM.out]
          · rw [msgsCells_append, List.length_append]
            exact hown
          · intro p hp
            rcases List.mem_append.1 hp with hp | hp
            · exact own_fr (HP.out p hp) hfr (fun q hq => own_ne (HP.out p hp) HO.out (by decide) hq)
            · obtain rfl : p = (m, .slice rA m.recs.length rc) := by simpa using hp
              have h1 := own_mono HO2.out (Nat.le_trans HBW.out (Nat.le_refl _))
              have hg2 : Fr (fun q => (Value.slice oA ps.length oc).ownBlock = some q) w2 w3 := ((Fr.refl _ _).alloc _).grown hg (fun q hq => .inl hq)
              refine own_fr h1 hg2 (fun q hq hq' => ?_)
              have a1 := (own_lt HO2.out hq).1
              have a2 := (hgb q hq').2
              omega
          · rw [World.cell?_of_block (w := wr) (hfr.block g hgr hgne)]
            exact HC2.out q hq
        case measure => simp [intOf]; omega
      · exact msgsCells_one _ (fun p hp => by obtain rfl : p = (m, .slice rA m.recs.length rc) := by simpa using hp
                                              rfl)
      · have := HL.out; simp only [maxLen]; omega
      · have := HL.out; omega
      · have := HBW.out; simp; omega
    · obtain rfl : k = 2 := by omega
      clear hc ho hpr hps hb2 hlen
      go_wp2
      go_ret
      refine ⟨_, rfl, ⟨ps, ?_, HO.out, HP.out⟩, HB2.out⟩
      rw [← HPS.out, M.all, HI.out, List.take_of_length_le (by rw [others_len]; omega)]
end
end Go.Proofs.Ytodmihpmbecncaa
