/-
  Walk of the law ReplicaMatches: it answers true. Condition: the operations lie in memory.
-/
import Derived.Test.YtodmihpmbecncaaLvB
namespace Go.Proofs.Ytodmihpmbecncaa
open Go.RowKit

set_option maxRecDepth 100000 in
set_option maxHeartbeats 3200000 in
theorem matches_calls {ok : Nat → Prop} {w : World} (l : List M.Op) (v : Value) (hs : Sl w ok 4 v l.length (opsCells l)) (hd : ∀ o ∈ l, o.data.size ≤ 9223372036854775807) :
    Calls Try.prog 7 #[v] w fun e w' => e = .returned (.bool true) ∧ Below w.heap.size w w' := by
  obtain ⟨lA, lc, rfl⟩ := Sl.form hs
  have hlen := hs.2.1
  have HD := Lib.hid hd
  have HS := Lib.hid hs
  clear hs hd
  go_enter Try.func7, Try.ntmps7
  go_wp2_with fail
  refine (small_calls w).mono ?_
  rintro e w1 ⟨rfl, hb1⟩
  have HB1 := Lib.hid hb1
  clear hb1
  go_wp2_with fail
  refine (begin_calls w1).mono ?_
  rintro e w2 hp
  obtain ⟨L0, rfl, hok, hcl, hb2⟩ := hp
  have hv : LwSt w w2 w1.heap.size M.begin_ L0 M.gh0 := by
    have h1 := HB1.out.size
    exact ⟨HB1.out.trans (hb2.mono h1), hok, M.pinv_begin, fun k hk => by have := hcl k hk; omega⟩
  have HV := Lib.hid hv
  clear hok hcl hb2 hv HB1
  unfold ptrV
  generalize w1.heap.size = cb at *
  go_wp2_with fail
  refine (few_calls l (.slice lA l.length lc) 150 (HS.out.below HV.out.below (Nat.le_refl _)) HD.out).mono ?_
  rintro e w' ⟨rfl, rfl⟩
  cases hfew : fewB l 150
  · go_wp2_with fail
    go_ret
    exact ⟨rfl, HV.out.below⟩
  · have hl150 : l.length ≤ 150 := by
      unfold fewB at hfew
      rw [Bool.and_eq_true] at hfew
      simpa using hfew.2
    clear hfew
    go_wp2_with fail
    refine wp_world (fun V => MtSt w V cb M.begin_ L0 M.gh0 w2.heap.size [0, 0, 0]) ⟨HV.out.below' ((Below.refl _ _).alloc (Nat.le_refl _) _), World.ownsRow_lit _ _ 3 HV.out.below.size (by decide) rfl, rfl, fun k hk => by rcases lt3 hk with rfl | rfl | rfl <;> decide⟩ ?_
    rintro V hV
    have HMT := Lib.hid hV
    clear hV HV
    generalize w2.heap.size = tg at *
    go_loopw [6] (fun iv wr => ∃ (i : Nat) (x : M.Cl) (L : Lay) (g : M.Gh) (ts : List Int), iv = .int .i64 i ∧ i ≤ l.length ∧ MtSt w wr cb x L g tg ts) (fun iv _ => l.length - (intOf iv).toNat)
    case atStart => exact ⟨0, _, _, _, _, rfl, Nat.zero_le _, HMT.out⟩
    case round =>
      clear HMT
      obtain ⟨i, x, L, g, ts, rfl, hi, hst⟩ := hrel
      have HST := Lib.hid hst
      clear hst
      by_cases hlt : i < l.length
      · have hltI : (i : Int) < (l.length : Int) := by omega
        have hS2 := HS.out.below HST.out.below (Nat.le_refl _)
        obtain ⟨_, _, A', c', hA, hcap, hc63, h6⟩ := hS2
        cases hA
        rcases h6 with h6 | ⟨bl, off, rfl, _, hbl, hc⟩
        · omega
        obtain ⟨z0, z1, z2, z3⟩ := opsCells_at l i hlt
        have y0 := hc _ _ z0
        have y1 := hc _ _ z1
        have y2 := hc _ _ z2
        have y3 := hc _ _ z3
        rw [← Nat.add_assoc] at y1 y2 y3
        have hdd := HD.out l[i] (List.getElem_mem hlt)
        generalize hop : l[i] = o at y0 y1 y2 y3 hdd
        clear z0 z1 z2 z3 hc hop
        go_wp2_with fail
        have hcc := step_calls HST.out.cl HST.out.inv o hdd
        unfold ptrV at hcc
        refine hcc.mono ?_
        rintro e w3 hp
        obtain ⟨rfl, L', g', hst'⟩ := HST.out.step hp
        generalize M.step x o = x' at hst'
        have HST' := Lib.hid hst'
        clear hp hst' hcc y0 y1 y2 y3 HST
        go_wp2_with fail
        go_loopw [7] (fun jv wr => ∃ (k : Nat) (ts : List Int), jv = .int .i64 k ∧ k ≤ 3 ∧ MtSt w wr cb x' L' g' tg ts) (fun jv _ => 3 - (intOf jv).toNat)
        case atStart => exact ⟨0, _, rfl, Nat.zero_le _, HST'.out⟩
        case round =>
          clear HST' hltI hbl
          obtain ⟨k, ts, rfl, hk, hst⟩ := hrel
          have HST := Lib.hid hst
          by_cases hk3 : k < 3
          · have hk3I : (k : Int) < 3 := by omega
            obtain ⟨c0, c1, _⟩ := hst.cl.cells
            have hr0 := hst.cl.rcell hk3
            unfold ptrV at hr0
            obtain ⟨s0, s1, s2, _⟩ := hst.cl.scells hk3
            obtain ⟨q1, q2⟩ := hst.inv.st k hk3
            rw [q1] at s0 s1
            have t0 := hst.cell hk3
            have hrep := hst.cl.rep k hk3
            have hlog := hst.cl.slog k hk3
            have hle := hst.le k hk3
            rw [q2] at hlog
            generalize htk : ts.getD k 0 = tk at t0 hle
            have hSS : ∀ w', Below wr.heap.size wr w' → (Below wr.heap.size wr w' ∧ w'.cell? ⟨cb, 1, none⟩ = some (.slice (some ⟨L'.sA, 0, none⟩) 3 L'.sc) ∧ w'.cell? ⟨L'.sA, k * 4, none⟩ = some (.int .i64 (M.Rf x' k).hard.term) ∧ w'.cell? ⟨L'.sA, k * 4 + 1, none⟩ = some (.int .i64 (M.Rf x' k).hard.vote) ∧ w'.cell? ⟨L'.sA, k * 4 + 2, none⟩ = some (L'.lv k) ∧ w'.cell? ⟨tg, k, none⟩ = some (.int .i64 tk)) := fun w' hb =>
              have h' := hst.below' hb
              ⟨hb, h'.cl.cells.2.1, (h'.cl.scells hk3).1.trans (by rw [q1]), (h'.cl.scells hk3).2.1.trans (by rw [q1]), (h'.cl.scells hk3).2.2.1, by rw [← htk]; exact h'.cell hk3⟩
            have HSS := Lib.hid hSS
            have HLOG := Lib.hid hlog.1
            have HLE := Lib.hid hle
            clear hst s0 s1 s2 t0 q1 q2 hlog hle c1 hSS hrep
            go_upto_region 15 with fail
            refine wp_region_noPanic ?_
            refine wp_region_held_drew (S := fun w' => Below wr.heap.size wr w' ∧ w'.cell? ⟨cb, 1, none⟩ = some (.slice (some ⟨L'.sA, 0, none⟩) 3 L'.sc) ∧ w'.cell? ⟨L'.sA, k * 4, none⟩ = some (.int .i64 (M.Rf x' k).hard.term) ∧ w'.cell? ⟨L'.sA, k * 4 + 1, none⟩ = some (.int .i64 (M.Rf x' k).hard.vote) ∧ w'.cell? ⟨L'.sA, k * 4 + 2, none⟩ = some (L'.lv k) ∧ w'.cell? ⟨tg, k, none⟩ = some (.int .i64 tk)) (by kernel_rfl) (HSS.out _ (Below.refl _ _).drew) (fun hHeld => ?_)
            refine wpAnyH_take (i := 0) (v := ?_) rfl (by kernel_rfl) (by kernel_rfl) (by kernel_rfl) (fun _ _ _ h => h) (Or.inl ⟨by rfl, ?_⟩) (by assumption) ?_
            rotate_left 1
            · intro w' hSw
              (try dsimp only at hSw)
              go_simp
              (try with_reducible rfl)
            (try simp only [Act.put, List.getElem_toArray, List.getElem_cons_zero, List.getElem_cons_succ, List.setIfInBounds_toArray, List.set_cons_zero, List.set_cons_succ])
            refine wpAnyH_take (i := 2) (v := ?_) rfl (by kernel_rfl) (by kernel_rfl) (by kernel_rfl) (fun _ _ _ h => h) (Or.inl ⟨by rfl, ?_⟩) (by assumption) ?_
            rotate_left 1
            · intro w' hSw
              (try dsimp only at hSw)
              go_simp
              (try with_reducible rfl)
            (try simp only [Act.put, List.getElem_toArray, List.getElem_cons_zero, List.getElem_cons_succ, List.setIfInBounds_toArray, List.set_cons_zero, List.set_cons_succ])
            refine wpAnyH_take (i := 3) (v := ?_) rfl (by kernel_rfl) (by kernel_rfl) (by kernel_rfl) (fun _ _ _ h => h) (Or.inl ⟨by rfl, ?_⟩) (by assumption) ?_
            rotate_left 1
            · intro w' hSw
              (try dsimp only at hSw)
              go_simp
              (try with_reducible rfl)
            (try simp only [Act.put, List.getElem_toArray, List.getElem_cons_zero, List.getElem_cons_succ, List.setIfInBounds_toArray, List.set_cons_zero, List.set_cons_succ])
            refine wpAnyH_take (i := 4) (v := ?_) rfl (by kernel_rfl) (by kernel_rfl) (by kernel_rfl) (fun _ _ _ h => h) (Or.inl ⟨by rfl, ?_⟩) (by assumption) ?_
            rotate_left 1
            · intro w' hSw
              (try dsimp only at hSw)
              go_simp
              (try with_reducible rfl)
            (try simp only [Act.put, List.getElem_toArray, List.getElem_cons_zero, List.getElem_cons_succ, List.setIfInBounds_toArray, List.set_cons_zero, List.set_cons_succ])
            refine wpAnyH_take (i := 5) (v := ?_) rfl (by kernel_rfl) (by kernel_rfl) (by kernel_rfl) (fun _ _ _ h => h) (Or.inl ⟨by rfl, ?_⟩) (by assumption) ?_
            rotate_left 1
            · intro w' hSw
              (try dsimp only at hSw)
              go_simp
              (try with_reducible rfl)
            (try simp only [Act.put, List.getElem_toArray, List.getElem_cons_zero, List.getElem_cons_succ, List.setIfInBounds_toArray, List.set_cons_zero, List.set_cons_succ])
            refine wpAnyH_take (i := 6) (v := ?_) rfl (by kernel_rfl) (by kernel_rfl) (by kernel_rfl) (fun _ _ _ h => h) (Or.inl ⟨by rfl, ?_⟩) (by assumption) ?_
            rotate_left 1
            · intro w' hSw
              (try dsimp only at hSw)
              go_simp
              (try with_reducible rfl)
            (try simp only [Act.put, List.getElem_toArray, List.getElem_cons_zero, List.getElem_cons_succ, List.setIfInBounds_toArray, List.set_cons_zero, List.set_cons_succ])
            refine wpAnyH_take (i := 7) (v := ?_) rfl (by kernel_rfl) (by kernel_rfl) (by kernel_rfl) (fun _ _ _ h => h) (Or.inl ⟨by rfl, ?_⟩) (by assumption) ?_
            rotate_left 1
            · intro w' hSw
              (try dsimp only at hSw)
              go_simp
              (try with_reducible rfl)
            (try simp only [Act.put, List.getElem_toArray, List.getElem_cons_zero, List.getElem_cons_succ, List.setIfInBounds_toArray, List.set_cons_zero, List.set_cons_succ])
            refine wpAnyH_take (i := 8) (v := ?_) rfl (by kernel_rfl) (by kernel_rfl) (by kernel_rfl) (fun _ _ _ h => h) (Or.inl ⟨by rfl, ?_⟩) (by assumption) ?_
            rotate_left 1
            · intro w' hSw
              (try dsimp only at hSw)
              go_simp
              (try with_reducible rfl)
            (try simp only [Act.put, List.getElem_toArray, List.getElem_cons_zero, List.getElem_cons_succ, List.setIfInBounds_toArray, List.set_cons_zero, List.set_cons_succ])
            refine wpAnyH_take (i := 9) (v := ?_) rfl (by kernel_rfl) (by kernel_rfl) (by kernel_rfl) (fun _ _ _ h => h) (Or.inl ⟨by rfl, ?_⟩) (by assumption) ?_
            rotate_left 1
            · intro w' hSw
              (try dsimp only at hSw)
              go_simp
              (try with_reducible rfl)
            (try simp only [Act.put, List.getElem_toArray, List.getElem_cons_zero, List.getElem_cons_succ, List.setIfInBounds_toArray, List.set_cons_zero, List.set_cons_succ])
            refine wpAnyH_ready (rs := [1]) (by kernel_rfl) (by simp) ?_
            refine AllReadyH.cons rfl (fun K hK => ?_) AllReadyH.nil
            clear hHeld
            go_simp
            go_at_call 28
            refine (hard_calls (HST.out.toLwSt.rep hk3 (Below.refl _ _).drew)).mono ?_
            rintro e w4 ⟨rfl, hb4⟩
            have hB4 : Below wr.heap.size wr w4 := (Below.refl _ _).drew.trans hb4
            have HB4 := Lib.hid hB4
            refine hK.out _ _ (HSS.out _ hB4) (fun hHeld2 => ?_)
            clear hK K hb4 hB4
            (try simp only [Act.put, List.getElem_toArray, List.getElem_cons_zero, List.getElem_cons_succ, List.setIfInBounds_toArray, List.set_cons_zero, List.set_cons_succ])
            refine wpAnyH_take (i := 10) (v := ?_) rfl (by kernel_rfl) (by kernel_rfl) (by kernel_rfl) (fun _ _ _ h => h) (Or.inl ⟨by rfl, ?_⟩) (by assumption) ?_
            rotate_left 1
            · intro w' hSw
              (try dsimp only at hSw)
              go_simp
              (try with_reducible rfl)
            (try simp only [Act.put, List.getElem_toArray, List.getElem_cons_zero, List.getElem_cons_succ, List.setIfInBounds_toArray, List.set_cons_zero, List.set_cons_succ])
            refine wpAnyH_take (i := 11) (v := ?_) rfl (by kernel_rfl) (by kernel_rfl) (by kernel_rfl) (fun _ _ _ h => h) (Or.inl ⟨by rfl, ?_⟩) (by assumption) ?_
            rotate_left 1
            · intro w' hSw
              (try dsimp only at hSw)
              go_simp
              (try with_reducible rfl)
            (try simp only [Act.put, List.getElem_toArray, List.getElem_cons_zero, List.getElem_cons_succ, List.setIfInBounds_toArray, List.set_cons_zero, List.set_cons_succ])
            refine wpAnyH_take (i := 12) (v := ?_) rfl (by kernel_rfl) (by kernel_rfl) (by kernel_rfl) (fun _ _ _ h => h) (Or.inl ⟨by rfl, ?_⟩) (by assumption) ?_
            rotate_left 1
            · intro w' hSw
              (try dsimp only at hSw)
              go_simp
              (try with_reducible rfl)
            (try simp only [Act.put, List.getElem_toArray, List.getElem_cons_zero, List.getElem_cons_succ, List.setIfInBounds_toArray, List.set_cons_zero, List.set_cons_succ])
            refine wpAnyH_take (i := 14) (v := ?_) rfl (by kernel_rfl) (by kernel_rfl) (by kernel_rfl) (fun _ _ _ h => h) (Or.inl ⟨by rfl, ?_⟩) (by assumption) ?_
            rotate_left 1
            · intro w' hSw
              (try dsimp only at hSw)
              go_simp
              (try with_reducible rfl)
            (try simp only [Act.put, List.getElem_toArray, List.getElem_cons_zero, List.getElem_cons_succ, List.setIfInBounds_toArray, List.set_cons_zero, List.set_cons_succ])
            refine wpAnyH_take (i := 15) (v := ?_) rfl (by kernel_rfl) (by kernel_rfl) (by kernel_rfl) (fun _ _ _ h => h) (Or.inl ⟨by rfl, ?_⟩) (by assumption) ?_
            rotate_left 1
            · intro w' hSw
              (try dsimp only at hSw)
              go_simp
              (try with_reducible rfl)
            (try simp only [Act.put, List.getElem_toArray, List.getElem_cons_zero, List.getElem_cons_succ, List.setIfInBounds_toArray, List.set_cons_zero, List.set_cons_succ])
            refine wpAnyH_take (i := 16) (v := ?_) rfl (by kernel_rfl) (by kernel_rfl) (by kernel_rfl) (fun _ _ _ h => h) (Or.inl ⟨by rfl, ?_⟩) (by assumption) ?_
            rotate_left 1
            · intro w' hSw
              (try dsimp only at hSw)
              go_simp
              (try with_reducible rfl)
            (try simp only [Act.put, List.getElem_toArray, List.getElem_cons_zero, List.getElem_cons_succ, List.setIfInBounds_toArray, List.set_cons_zero, List.set_cons_succ])
            refine wpAnyH_take (i := 17) (v := ?_) rfl (by kernel_rfl) (by kernel_rfl) (by kernel_rfl) (fun _ _ _ h => h) (Or.inl ⟨by rfl, ?_⟩) (by assumption) ?_
            rotate_left 1
            · intro w' hSw
              (try dsimp only at hSw)
              go_simp
              (try with_reducible rfl)
            (try simp only [Act.put, List.getElem_toArray, List.getElem_cons_zero, List.getElem_cons_succ, List.setIfInBounds_toArray, List.set_cons_zero, List.set_cons_succ])
            refine wpAnyH_take (i := 18) (v := ?_) rfl (by kernel_rfl) (by kernel_rfl) (by kernel_rfl) (fun _ _ _ h => h) (Or.inl ⟨by rfl, ?_⟩) (by assumption) ?_
            rotate_left 1
            · intro w' hSw
              (try dsimp only at hSw)
              go_simp
              (try with_reducible rfl)
            (try simp only [Act.put, List.getElem_toArray, List.getElem_cons_zero, List.getElem_cons_succ, List.setIfInBounds_toArray, List.set_cons_zero, List.set_cons_succ])
            refine wpAnyH_take (i := 19) (v := ?_) rfl (by kernel_rfl) (by kernel_rfl) (by kernel_rfl) (fun _ _ _ h => h) (Or.inl ⟨by rfl, ?_⟩) (by assumption) ?_
            rotate_left 1
            · intro w' hSw
              (try dsimp only at hSw)
              go_simp
              (try with_reducible rfl)
            (try simp only [Act.put, List.getElem_toArray, List.getElem_cons_zero, List.getElem_cons_succ, List.setIfInBounds_toArray, List.set_cons_zero, List.set_cons_succ])
            refine wpAnyH_take (i := 20) (v := ?_) rfl (by kernel_rfl) (by kernel_rfl) (by kernel_rfl) (fun _ _ _ h => h) (Or.inl ⟨by rfl, ?_⟩) (by assumption) ?_
            rotate_left 1
            · intro w' hSw
              (try dsimp only at hSw)
              go_simp
              (try with_reducible rfl)
            (try simp only [Act.put, List.getElem_toArray, List.getElem_cons_zero, List.getElem_cons_succ, List.setIfInBounds_toArray, List.set_cons_zero, List.set_cons_succ])
            refine wpAnyH_take (i := 21) (v := ?_) rfl (by kernel_rfl) (by kernel_rfl) (by kernel_rfl) (fun _ _ _ h => h) (Or.inl ⟨by rfl, ?_⟩) (by assumption) ?_
            rotate_left 1
            · intro w' hSw
              (try dsimp only at hSw)
              go_simp
              (try with_reducible rfl)
            (try simp only [Act.put, List.getElem_toArray, List.getElem_cons_zero, List.getElem_cons_succ, List.setIfInBounds_toArray, List.set_cons_zero, List.set_cons_succ])
            refine wpAnyH_ready (rs := [13]) (by kernel_rfl) (by simp) ?_
            refine AllReadyH.cons rfl (fun K hK => ?_) AllReadyH.nil
            clear hHeld2
            go_simp
            go_at_call 19
            refine (log_calls (HST.out.toLwSt.rep hk3 HB4.out)).mono ?_
            rintro e w5 ⟨va, rfl, hra, hb5⟩
            have hB5 : Below wr.heap.size wr w5 := HB4.out.trans (hb5.mono HB4.out.size)
            have HB5 := Lib.hid hB5
            have HRA := Lib.hid hra
            refine hK.out _ _ (HSS.out _ hB5) (fun hHeld3 => ?_)
            clear hK K hb5 hB5 hra
            (try simp only [Act.put, List.getElem_toArray, List.getElem_cons_zero, List.getElem_cons_succ, List.setIfInBounds_toArray, List.set_cons_zero, List.set_cons_succ])
            refine wpAnyH_ready (rs := [22]) (by kernel_rfl) (by simp) ?_
            refine AllReadyH.cons rfl (fun K hK => ?_) AllReadyH.nil
            clear hHeld3
            go_simp
            go_at_call 18
            refine (same_calls _ _ _ _ (Sl.of_own HRA.out) (Sl.of_own (own_below HLOG.out HB5.out (Nat.le_refl _)))).mono ?_
            rintro e w6 ⟨rfl, hb6⟩
            rw [sameB_eq rfl]
            have hB6 : Below wr.heap.size wr w6 := HB5.out.trans (hb6.mono HB5.out.size)
            have HB6 := Lib.hid hB6
            refine hK.out _ _ (HSS.out _ hB6) (fun hHeld4 => ?_)
            clear hK K hb6 hB6
            (try simp only [Act.put, List.getElem_toArray, List.getElem_cons_zero, List.getElem_cons_succ, List.setIfInBounds_toArray, List.set_cons_zero, List.set_cons_succ])
            refine wpAnyH_take (i := 23) (v := ?_) rfl (by kernel_rfl) (by kernel_rfl) (by kernel_rfl) (fun _ _ _ h => h) (Or.inl ⟨by rfl, ?_⟩) (by assumption) ?_
            rotate_left 1
            · intro w' hSw
              (try dsimp only at hSw)
              go_simp
              (try with_reducible rfl)
            (try simp only [Act.put, List.getElem_toArray, List.getElem_cons_zero, List.getElem_cons_succ, List.setIfInBounds_toArray, List.set_cons_zero, List.set_cons_succ])
            refine wpAnyH_take (i := 24) (v := ?_) rfl (by kernel_rfl) (by kernel_rfl) (by kernel_rfl) (fun _ _ _ h => h) (Or.inl ⟨by rfl, ?_⟩) (by assumption) ?_
            rotate_left 1
            · intro w' hSw
              (try dsimp only at hSw)
              go_simp
              (try with_reducible rfl)
            (try simp only [Act.put, List.getElem_toArray, List.getElem_cons_zero, List.getElem_cons_succ, List.setIfInBounds_toArray, List.set_cons_zero, List.set_cons_succ])
            refine wpAnyH_take (i := 25) (v := ?_) rfl (by kernel_rfl) (by kernel_rfl) (by kernel_rfl) (fun _ _ _ h => h) (Or.inl ⟨by rfl, ?_⟩) (by assumption) ?_
            rotate_left 1
            · intro w' hSw
              (try dsimp only at hSw)
              go_simp
              (try with_reducible rfl)
            (try simp only [Act.put, List.getElem_toArray, List.getElem_cons_zero, List.getElem_cons_succ, List.setIfInBounds_toArray, List.set_cons_zero, List.set_cons_succ])
            refine wpAnyH_take (i := 26) (v := ?_) rfl (by kernel_rfl) (by kernel_rfl) (by kernel_rfl) (fun _ _ _ h => h) (Or.inl ⟨by rfl, ?_⟩) (by assumption) ?_
            rotate_left 1
            · intro w' hSw
              (try dsimp only at hSw)
              go_simp
              (try with_reducible rfl)
            (try simp only [Act.put, List.getElem_toArray, List.getElem_cons_zero, List.getElem_cons_succ, List.setIfInBounds_toArray, List.set_cons_zero, List.set_cons_succ])
            refine wpAnyH_take (i := 29) (v := ?_) rfl (by kernel_rfl) (by kernel_rfl) (by kernel_rfl) (fun _ _ _ h => h) (Or.inl ⟨by rfl, ?_⟩) (by assumption) ?_
            rotate_left 1
            · intro w' hSw
              (try dsimp only at hSw)
              go_simp
              (try with_reducible rfl)
            (try simp only [Act.put, List.getElem_toArray, List.getElem_cons_zero, List.getElem_cons_succ, List.setIfInBounds_toArray, List.set_cons_zero, List.set_cons_succ])
            refine wpAnyH_take (i := 30) (v := ?_) rfl (by kernel_rfl) (by kernel_rfl) (by kernel_rfl) (fun _ _ _ h => h) (Or.inl ⟨by rfl, ?_⟩) (by assumption) ?_
            rotate_left 1
            · intro w' hSw
              (try dsimp only at hSw)
              go_simp
              (try with_reducible rfl)
            (try simp only [Act.put, List.getElem_toArray, List.getElem_cons_zero, List.getElem_cons_succ, List.setIfInBounds_toArray, List.set_cons_zero, List.set_cons_succ])
            refine wpAnyH_take (i := 31) (v := ?_) rfl (by kernel_rfl) (by kernel_rfl) (by kernel_rfl) (fun _ _ _ h => h) (Or.inl ⟨by rfl, ?_⟩) (by assumption) ?_
            rotate_left 1
            · intro w' hSw
              (try dsimp only at hSw)
              go_simp
              (try with_reducible rfl)
            (try simp only [Act.put, List.getElem_toArray, List.getElem_cons_zero, List.getElem_cons_succ, List.setIfInBounds_toArray, List.set_cons_zero, List.set_cons_succ])
            refine wpAnyH_take (i := 32) (v := ?_) rfl (by kernel_rfl) (by kernel_rfl) (by kernel_rfl) (fun _ _ _ h => h) (Or.inl ⟨by rfl, ?_⟩) (by assumption) ?_
            rotate_left 1
            · intro w' hSw
              (try dsimp only at hSw)
              go_simp
              (try with_reducible rfl)
            (try simp only [Act.put, List.getElem_toArray, List.getElem_cons_zero, List.getElem_cons_succ, List.setIfInBounds_toArray, List.set_cons_zero, List.set_cons_succ])
            refine wpAnyH_ready (rs := [27]) (by kernel_rfl) (by simp) ?_
            refine AllReadyH.cons rfl (fun K hK => ?_) AllReadyH.nil
            clear hHeld4
            go_simp
            go_at_call 28
            refine (hard_calls (HST.out.toLwSt.rep hk3 HB6.out)).mono ?_
            rintro e w7 ⟨rfl, hb7⟩
            have hB7 : Below wr.heap.size wr w7 := HB6.out.trans (hb7.mono HB6.out.size)
            have HB7 := Lib.hid hB7
            refine hK.out _ _ (HSS.out _ hB7) (fun hHeld5 => ?_)
            clear hK K hb7 hB7
            (try simp only [Act.put, List.getElem_toArray, List.getElem_cons_zero, List.getElem_cons_succ, List.setIfInBounds_toArray, List.set_cons_zero, List.set_cons_succ])
            have hfd := field40 (M.Rf x' k).hard.term (M.Rf x' k).hard.vote
            have hleD : decide ((M.Rf x' k).hard.term < tk) = false := decide_eq_false (by have := HLE.out; omega)
            refine wpAnyH_take (i := 28) (v := ?_) rfl (by kernel_rfl) (by kernel_rfl) (by kernel_rfl) (fun _ _ _ h => h) (Or.inl ⟨by rfl, ?_⟩) (by assumption) ?_
            rotate_left 1
            · intro w' hSw
              (try dsimp only at hSw)
              go_simp
              (try with_reducible rfl)
            (try simp only [Act.put, List.getElem_toArray, List.getElem_cons_zero, List.getElem_cons_succ, List.setIfInBounds_toArray, List.set_cons_zero, List.set_cons_succ])
            refine wpAnyH_take (i := 33) (v := ?_) rfl (by kernel_rfl) (by kernel_rfl) (by kernel_rfl) (fun _ _ _ h => h) (Or.inl ⟨by rfl, ?_⟩) (by assumption) ?_
            rotate_left 1
            · intro w' hSw
              (try dsimp only at hSw)
              go_simp
              (try with_reducible rfl)
            (try simp only [Act.put, List.getElem_toArray, List.getElem_cons_zero, List.getElem_cons_succ, List.setIfInBounds_toArray, List.set_cons_zero, List.set_cons_succ])
            refine wpAnyH_take (i := 34) (v := ?_) rfl (by kernel_rfl) (by kernel_rfl) (by kernel_rfl) (fun _ _ _ h => h) (Or.inl ⟨by rfl, ?_⟩) (by assumption) ?_
            rotate_left 1
            · intro w' hSw
              (try dsimp only at hSw)
              go_simp
              (try with_reducible rfl)
            (try simp only [Act.put, List.getElem_toArray, List.getElem_cons_zero, List.getElem_cons_succ, List.setIfInBounds_toArray, List.set_cons_zero, List.set_cons_succ])
            refine wpAnyH_done (by kernel_rfl) ?_ _
            refine NoPanic.normal ?_
            clear HSS HLOG HLE c0 hr0 HB4 HB5 HRA HB6 hHeld5 hleD hfd htk
            have h7 := HST.out.below' HB7.out
            have t0 := h7.cell hk3
            have tf := h7.row.frozenAt k
            have H7 := Lib.hid h7
            clear h7 HST HB7
            go_wp2_with fail
            refine (hard_calls (H7.out.toLwSt.rep hk3 (Below.refl _ _))).mono ?_
            rintro e w8 ⟨rfl, hb8⟩
            have hfd := field40 (M.Rf x' k).hard.term (M.Rf x' k).hard.vote
            have h8 := H7.out.below' hb8
            have t0 := h8.cell hk3
            have tf := h8.row.frozenAt k
            have H8 := Lib.hid h8
            clear h8 hb8 H7
            go_wp2_with fail
            refine wp_world (fun V => MtSt w V cb x' L' g' tg (ts.set k (M.Rf x' k).hard.term)) (H8.out.put hk3) ?_
            rintro V hV
            have HV := Lib.hid hV
            clear hV H8 t0 tf hfd
            generalize ts.set k (M.Rf x' k).hard.term = ts2 at *
            go_loopw [9] (fun nv wn => ∃ n : Nat, nv = .int .i64 n ∧ n ≤ k ∧ MtSt w wn cb x' L' g' tg ts2) (fun nv _ => k - (intOf nv).toNat)
            case atStart => exact ⟨0, rfl, Nat.zero_le _, HV.out⟩
            case round =>
              clear HV
              obtain ⟨n, rfl, hn, hst⟩ := hrel
              have HST := Lib.hid hst
              by_cases hnk : n < k
              · have hnkI : (n : Int) < (k : Int) := by omega
                have hn3 : n < 3 := by omega
                have hn3I : (n : Int) < 3 := by omega
                clear hst
                go_wp2_with fail
                refine (log_calls (HST.out.toLwSt.rep hk3 (Below.refl _ _))).mono ?_
                rintro e wa ⟨va, rfl, hra, hba⟩
                obtain ⟨aA, ac, rfl⟩ := own_form hra
                have h9 := HST.out.below' hba
                have c0 := h9.cl.cells.1
                have hr0 := h9.cl.rcell hn3
                unfold ptrV at hr0
                have H9 := Lib.hid h9
                have HRA := Lib.hid hra
                clear h9 hba hra HST
                go_wp2_with fail
                refine (log_calls (H9.out.toLwSt.rep hn3 (Below.refl _ _))).mono ?_
                rintro e wb ⟨vb, rfl, hrb, hbb⟩
                obtain ⟨bA, bc, rfl⟩ := own_form hrb
                have hla : (M.Rf x' k).log.length ≤ 4000 := (H9.out.toLwSt.wf k hk3).len
                have hlb : (M.Rf x' n).log.length ≤ 4000 := (H9.out.toLwSt.wf n hn3).len
                have H10 := Lib.hid (H9.out.below' hbb)
                have HA := Lib.hid ((Sl.of_own (own_below HRA.out hbb (Nat.le_refl _))).mono (ok' := fun _ => True) (fun _ _ _ => trivial))
                have HB := Lib.hid ((Sl.of_own hrb).mono (ok' := fun _ => True) (fun _ _ _ => trivial))
                have HAG := Lib.hid (fun m h1 h2 h3 => H10.out.toLwSt.agree (m := m) hk3 hn3 h1 h2 h3)
                clear hrb hbb H9 HRA c0 hr0
                generalize (M.Rf x' k).log = a at *
                generalize (M.Rf x' n).log = b at *
                have hlaI : (a.length : Int) ≤ 4000 := by omega
                have hlbI : (b.length : Int) ≤ 4000 := by omega
                go_upto_region 23 with fail
                go_cut [12] (fun mv wx => ∃ m0 : Nat, mv = .int .i64 m0 ∧ m0 ≤ a.length ∧ m0 ≤ b.length ∧ wx = wb)
                case first =>
                  go_wp2_with fail
                  all_goals go_meet
                  all_goals first | exact ⟨a.length, rfl, by omega, by omega, rfl⟩ | exact ⟨b.length, rfl, by omega, by omega, rfl⟩
                case rest =>
                  obtain ⟨m0, rfl, hm1, hm2, rfl⟩ := hcut
                  go_upto_block 6 with fail
                  go_cut [12] (fun mv wx => ∃ m : Nat, mv = .int .i64 m ∧ m ≤ a.length ∧ m ≤ b.length ∧ a.take m = b.take m ∧ Below wc.heap.size wc wx)
                  case first =>
                    go_wp2_with fail
                    go_loopw [12] (fun mv wn => ∃ m : Nat, mv = .int .i64 m ∧ m ≤ a.length ∧ m ≤ b.length ∧ Below wc.heap.size wc wn) (fun mv _ => (intOf mv).toNat)
                    case atStart => exact ⟨m0, rfl, hm1, hm2, Below.refl _ _⟩
                    case round =>
                      clear hm1 hm2
                      obtain ⟨m, rfl, hm1, hm2, hbm⟩ := hrel
                      have HBM := Lib.hid hbm
                      clear hbm
                      by_cases hm : m = 0
                      · subst hm
                        go_upto_region 24 with fail
                        go_quiet (fail)
                        go_wp2_with fail
                        go_meet
                        case rel => exact ⟨0, rfl, hm1, hm2, by simp, HBM.out.trans ((below_drewN (Below.refl _ _) _).mono HBM.out.size)⟩
                      · obtain ⟨p, rfl⟩ : ∃ p, m = p + 1 := ⟨m - 1, by omega⟩
                        have hp0 : (0 : Int) < ((p + 1 : Nat) : Int) := by omega
                        have hpw : IntKind.i64.wrap (((p + 1 : Nat) : Int) - 1) = (p : Int) := by
                          rw [show ((p + 1 : Nat) : Int) - 1 = (p : Int) from by omega]
                          exact IntWalk.i64_in _ (by omega)
                        have hpa : (p : Int) < (a.length : Int) := by omega
                        have hpb : (p : Int) < (b.length : Int) := by omega
                        have hpz : (0 : Int) ≤ (p : Int) := by omega
                        have h1 := HA.out.below HBM.out (Nat.le_refl _)
                        have h2 := HB.out.below HBM.out (Nat.le_refl _)
                        obtain ⟨_, _, A', c', hA, hcap, hc63, h6⟩ := h1
                        cases hA
                        obtain ⟨_, _, A', c', hA, hcap', hc63', h6'⟩ := h2
                        cases hA
                        rcases h6 with h6 | ⟨ba, oa, rfl, _, hba, hca⟩
                        · omega
                        rcases h6' with h6' | ⟨bb, ob, rfl, _, hbb, hcb⟩
                        · omega
                        have x0 := hca _ _ (recsCells_at a p (by omega)).1
                        have z0 := hcb _ _ (recsCells_at b p (by omega)).1
                        have hta : M.tn a (p + 1) = a[p].term := by
                          rw [M.tn_succ, List.getD_eq_getElem?_getD, List.getElem?_eq_getElem (by omega)]; rfl
                        have htb : M.tn b (p + 1) = b[p].term := by
                          rw [M.tn_succ, List.getD_eq_getElem?_getD, List.getElem?_eq_getElem (by omega)]; rfl
                        generalize a[p].term = ta at x0 hta
                        generalize b[p].term = tb at z0 htb
                        have HTA := Lib.hid hta
                        have HTB := Lib.hid htb
                        clear hca hcb hta htb
                        go_upto_region 24 with fail
                        by_cases ht : ta = tb
                        · have e1 : (ta != tb) = false := by simp [ht]
                          have htk : a.take (p + 1) = b.take (p + 1) := HAG.out (p + 1) hm1 hm2 (fun _ => by rw [HTA.out, HTB.out, ht])
                          have HTK := Lib.hid htk
                          clear ht htk
                          go_quiet (fail)
                          go_wp2_with fail
                          go_meet
                          case rel => exact ⟨p + 1, rfl, hm1, hm2, HTK.out, HBM.out.trans ((below_drewN (Below.refl _ _) _).mono HBM.out.size)⟩
                        · have e1 : (ta != tb) = true := by simp [ht]
                          clear ht
                          go_quiet (fail)
                          go_wp2_with fail
                          go_roundw
                          case rel => exact ⟨p, by go_num, by omega, by omega, HBM.out.trans ((below_drewN (Below.refl _ _) _).mono HBM.out.size)⟩
                          case measure => simp [intOf]
                  case rest =>
                    obtain ⟨m, rfl, hm1, hm2, htk, hbm⟩ := hcut
                    have hmI : (m : Int).toNat = m := Int.toNat_natCast m
                    obtain ⟨t1, ht1, hrun1⟩ := recs_take_slice (HA.out.below hbm (Nat.le_refl _)) (m : Int) (by omega) (by omega)
                    obtain ⟨t2, ht2, hrun2⟩ := recs_take_slice (HB.out.below hbm (Nat.le_refl _)) (m : Int) (by omega) (by omega)
                    rw [hmI] at ht1 ht2
                    have hsc := fun (w' : World) (h1 : Below wc.heap.size wc w') => same_calls (a.take m) (b.take m) t1 t2 (ht1.below h1 (Nat.le_refl _)) (ht2.below h1 (Nat.le_refl _))
                    rw [sameB_eq htk] at hsc
                    have HSC := Lib.hid hsc
                    have HBM := Lib.hid (H10.out.below' hbm)
                    clear hsc ht1 ht2 htk hbm HA HB HAG hmI hm1 hm2
                    go_upto_region 26 with fail
                    go_region_held3 (fun w' => Below wc.heap.size wc w') (first | exact (Below.refl _ _).drew | assumption)
                      ((first | (go_at_call 18; refine (HSC.out _ (by first | exact (Below.refl _ _).drew | assumption)).mono ?_; rintro e w2 ⟨rfl, hb2⟩
                                 have hbw2 : Below wc.heap.size wc w2 := (Below.refl _ wc).drew.trans hb2)))
                    go_wp2_with fail
                    go_roundw
                    case rel => exact ⟨n + 1, by go_num, by omega, HBM.out.below' hbw2⟩
                    case measure => simp [intOf]; omega
              · have hgeI : (k : Int) ≤ (n : Int) := by omega
                clear hst
                go_wp2_with fail
                go_roundw
                case rel => exact ⟨k + 1, ts2, by go_num, by omega, HST.out⟩
                case measure => simp [intOf]; omega
          · have hgeI : (3 : Int) ≤ (k : Int) := by omega
            clear hst
            go_wp2_with fail
            go_roundw
            case rel => exact ⟨i + 1, x', L', g', ts, by go_num, by omega, HST.out⟩
            case measure => simp [intOf]; omega
      · have hgeI : (l.length : Int) ≤ (i : Int) := by omega
        go_wp2_with fail
        go_ret
        exact ⟨rfl, HST.out.below⟩
end Go.Proofs.Ytodmihpmbecncaa
