/-
  Walk of the law ReplicaSafe: it answers true. Condition: the operations lie in memory.
-/
import Derived.Test.YtodmihpmbecncaaLvD
namespace Go.Proofs.Ytodmihpmbecncaa
open Go.RowKit

set_option maxRecDepth 100000 in
set_option maxHeartbeats 3200000 in
theorem safe_calls {ok : Nat → Prop} {w : World} (l : List M.Op) (v : Value) (hs : Sl w ok 4 v l.length (opsCells l)) (hd : ∀ o ∈ l, o.data.size ≤ 9223372036854775807) :
    Calls Try.prog 6 #[v] w fun e w' => e = .returned (.bool true) ∧ Below w.heap.size w w' := by
  obtain ⟨lA, lc, rfl⟩ := Sl.form hs
  have hlen := hs.2.1
  have HD := Lib.hid hd
  have HS := Lib.hid hs
  clear hs hd
  go_enter Try.func6, Try.ntmps6
  go_wp2_with fail
  refine (small_calls w).mono ?_
  rintro e w1 ⟨rfl, hb1⟩
  have HB1 := Lib.hid hb1
  clear hb1
  go_wp2_with fail
  refine (begin_calls w1).mono ?_
  rintro e w2 hp
  obtain ⟨L0, rfl, hok, hcl, hb2⟩ := hp
  have hv : LwSt w w2 w1.heap.size M.begin_ L0 M.gh0 := by
    have h1 := HB1.out.size
    exact ⟨HB1.out.trans (hb2.mono h1), hok, M.pinv_begin, fun k hk => by have := hcl k hk; omega⟩
  have HV := Lib.hid hv
  clear hok hcl hb2 hv HB1
  unfold ptrV
  generalize w1.heap.size = cb at *
  go_wp2_with fail
  refine (few_calls l (.slice lA l.length lc) 150 (HS.out.below HV.out.below (Nat.le_refl _)) HD.out).mono ?_
  rintro e w' ⟨rfl, rfl⟩
  cases hfew : fewB l 150
  · go_wp2_with fail
    go_ret
    exact ⟨rfl, HV.out.below⟩
  · have hl150 : l.length ≤ 150 := by
      unfold fewB at hfew
      rw [Bool.and_eq_true] at hfew
      simpa using hfew.2
    clear hfew
    go_wp2_with fail
    go_loopw [5, 6, 7, 8] (fun sv kv tv iv wr => ∃ (i : Nat) (x : M.Cl) (L : Lay) (g : M.Gh) (ls : List Hard) (kn : List Rec) (tm : Int), iv = .int .i64 i ∧ i ≤ l.length ∧ tv = .int .i64 tm ∧ ls.length ≤ 3 * i ∧ SfSt w wr cb x L g sv ls kv kn tm) (fun _ _ _ iv _ => l.length - (intOf iv).toNat)
    case atStart => exact ⟨0, _, _, _, [], [], 0, rfl, Nat.zero_le _, rfl, by simp, HV.out, World.ownsRow_nil _ _ _ _, ⟨rfl, by simp, none, 0, rfl, by simp, by simp, .inl rfl⟩, fun p hp => (by cases hp), .inl rfl⟩
    case round =>
      clear HV
      obtain ⟨i, x, L, g, ls, kn, tm, rfl, hi, rfl, hls, hst⟩ := hrel
      have HST := Lib.hid hst
      clear hst
      by_cases hlt : i < l.length
      · have hltI : (i : Int) < (l.length : Int) := by omega
        have hS2 := HS.out.below HST.out.below (Nat.le_refl _)
        obtain ⟨_, _, A', c', hA, hcap, hc63, h6⟩ := hS2
        cases hA
        rcases h6 with h6 | ⟨bl, off, rfl, _, hbl, hc⟩
        · omega
        obtain ⟨z0, z1, z2, z3⟩ := opsCells_at l i hlt
        have y0 := hc _ _ z0
        have y1 := hc _ _ z1
        have y2 := hc _ _ z2
        have y3 := hc _ _ z3
        rw [← Nat.add_assoc] at y1 y2 y3
        have hdd := HD.out l[i] (List.getElem_mem hlt)
        generalize hop : l[i] = o at y0 y1 y2 y3 hdd
        clear z0 z1 z2 z3 hc hop
        go_wp2_with fail
        have hcc := step_calls HST.out.cl HST.out.inv o hdd
        unfold ptrV at hcc
        refine hcc.mono ?_
        rintro e w3 hp
        obtain ⟨rfl, L', g', hst'⟩ := HST.out.step hp
        generalize M.step x o = x' at hst'
        have HST' := Lib.hid hst'
        clear hp hst' hcc y0 y1 y2 y3 HST
        go_wp2_with fail
        go_loopw [5, 6, 7, 9] (fun sv kv tv jv wr => ∃ (k : Nat) (ls : List Hard) (kn : List Rec) (tm : Int), jv = .int .i64 k ∧ k ≤ 3 ∧ tv = .int .i64 tm ∧ ls.length ≤ 3 * i + k ∧ SfSt w wr cb x' L' g' sv ls kv kn tm) (fun _ _ _ jv _ => 3 - (intOf jv).toNat)
        case atStart => exact ⟨0, _, _, _, rfl, Nat.zero_le _, rfl, by omega, HST'.out⟩
        case round =>
          clear HST' hltI hbl hls
          obtain ⟨k, ls, kn, tm, rfl, hk, rfl, hls, hst⟩ := hrel
          obtain ⟨sA, sc, rfl⟩ := own_form hst.row
          obtain ⟨kA, kc, rfl⟩ := Sl.form hst.krow
          have HST := Lib.hid hst
          by_cases hk3 : k < 3
          · have hk3I : (k : Int) < 3 := by omega
            have c0 := hst.cl.cells.1
            have hr0 := hst.cl.rcell hk3
            unfold ptrV at hr0
            clear hst
            go_wp2_with fail
            refine (log_calls (HST.out.toLwSt.rep hk3 (Below.refl _ _))).mono ?_
            rintro e w4 ⟨va, rfl, hra, hb4⟩
            obtain ⟨aA, ac, rfl⟩ := own_form hra
            have h4 := HST.out.below' hb4
            have hc0 : 0 ≤ (M.Rf x' k).commit := (h4.toLwSt.wf k hk3).commit0
            have hcN : (M.Rf x' k).commit ≤ ((M.Rf x' k).log.length : Int) := (h4.toLwSt.wf k hk3).commitN
            have hkb : Sl w4 (KnB w.heap.size w4 L') 2 (.slice aA (M.Rf x' k).log.length ac) (M.Rf x' k).log.length (recsCells (M.Rf x' k).log) :=
              KnB.of_own hra HST.out.below.size (fun q hq => HST.out.cl.lt (cb := cb) (.inr (.inr (.inr (.inr (by
                obtain ⟨i, hi, ad, e1, e2⟩ := hq
                exact ⟨i, hi, .inr ⟨ad, e1, e2⟩⟩))))))
            obtain ⟨t1, ht1, hrun1⟩ := recs_take_slice hkb (M.Rf x' k).commit hc0 hcN
            have hlN : ((M.Rf x' k).log.take (M.Rf x' k).commit.toNat).length = (M.Rf x' k).commit.toNat := by rw [List.length_take]; omega
            have HR4 := Lib.hid (h4.toLwSt.rep hk3 (Below.refl _ _))
            have H4 := Lib.hid h4
            have HKB := Lib.hid hkb
            have HT1 := Lib.hid ht1
            have HLN := Lib.hid hlN
            clear h4 hkb ht1 hra hb4 HST c0 hr0 hlN
            go_wp2_with (go_at_call 17; refine (commit_calls HR4.out).mono ?_; rintro e w' ⟨rfl, rfl⟩)
            have hbc := begins_calls kn ((M.Rf x' k).log.take (M.Rf x' k).commit.toNat) _ _ H4.out.krow HT1.out
            rw [H4.out.comp hk3] at hbc
            refine hbc.mono ?_
            rintro e w5 ⟨rfl, hb5⟩
            have H5 := Lib.hid (H4.out.below' hb5)
            have HKB5 := Lib.hid (KnB.sl (L' := L') HKB.out (Fr.of_below hb5) (fun _ _ _ q => q) (fun _ _ q => q))
            have HT5 := Lib.hid (KnB.sl (L' := L') HT1.out (Fr.of_below hb5) (fun _ _ _ q => q) (fun _ _ q => q))
            have HR5 := Lib.hid (H5.out.toLwSt.rep hk3 (Below.refl _ _))
            clear hbc hb5 HR4 H4 HKB HT1
            go_upto_if 76 with (go_at_call 17; refine (commit_calls HR5.out).mono ?_; rintro e w' ⟨rfl, rfl⟩)
            go_cut [6, 7] (fun kv tv wx => ∃ (kn2 : List Rec) (tm2 : Int), tv = .int .i64 tm2 ∧ SfSt w wx cb x' L' g' (.slice sA ls.length sc) ls kv kn2 tm2 ∧ Sl wx (KnB w.heap.size wx L') 2 (.slice aA (M.Rf x' k).log.length ac) (M.Rf x' k).log.length (recsCells (M.Rf x' k).log))
            case first =>
              by_cases hck : (kn.length : Int) < (M.Rf x' k).commit
              · go_wp2_with (go_at_call 17; refine (commit_calls HR5.out).mono ?_; rintro e w' ⟨rfl, rfl⟩)
                refine (hard_calls HR5.out).mono ?_
                rintro e w6 ⟨rfl, hb6⟩
                have hfd := field40 (M.Rf x' k).hard.term (M.Rf x' k).hard.vote
                have hkn : ∀ tm', (M.Rf x' k).hard.term ≤ tm' → SfSt w w6 cb x' L' g' (.slice sA ls.length sc) ls t1 ((M.Rf x' k).log.take (M.Rf x' k).commit.toNat) tm' := fun tm' ht => by
                  refine (H5.out.below' hb6).know hk3 ?_ ht
                  have := KnB.sl (L' := L') HT5.out (Fr.of_below hb6) (fun _ _ _ q => q) (fun _ _ q => q)
                  rw [HLN.out] at this
                  exact this
                have HKN := Lib.hid hkn
                have HKB6 := Lib.hid (KnB.sl (L' := L') HKB5.out (Fr.of_below hb6) (fun _ _ _ q => q) (fun _ _ q => q))
                clear hkn hb6 H5 HKB5 HT5 HR5
                by_cases htm : tm < (M.Rf x' k).hard.term
                · go_wp2_with fail
                  go_meet
                  case rel => exact ⟨_, _, rfl, HKN.out _ (Int.le_refl _), HKB6.out⟩
                · have htmI : (M.Rf x' k).hard.term ≤ tm := by omega
                  have HTM := Lib.hid htmI
                  go_wp2_with fail
                  go_meet
                  case rel => exact ⟨_, _, rfl, HKN.out _ HTM.out, HKB6.out⟩
              · have hckI : (M.Rf x' k).commit ≤ (kn.length : Int) := by omega
                go_wp2_with fail
                go_meet
                case rel => exact ⟨kn, tm, rfl, H5.out, HKB5.out⟩
            case rest =>
              obtain ⟨kn2, tm2, rfl, hst2, hkb2⟩ := hcut
              obtain ⟨kA2, kc2, rfl⟩ := Sl.form hst2.krow
              have HR := Lib.hid (hst2.toLwSt.rep hk3 (Below.refl _ _))
              have H2 := Lib.hid hst2
              have HKB2 := Lib.hid hkb2
              clear H5 HKB5 HT5 HR5 hrun1 hst2 hkb2
              by_cases hrole : (M.Rf x' k).role = 2
              · have q1 : ((M.Rf x' k).role != 2) = false := by simp [hrole]
                have HRO := Lib.hid hrole
                clear hrole
                go_wp2_with (go_at_call 15; refine (role_calls HR.out).mono ?_; rintro e w' ⟨rfl, rfl⟩)
                refine (hard_calls HR.out).mono ?_
                rintro e w7 ⟨rfl, hb7⟩
                have hfd := field40 (M.Rf x' k).hard.term (M.Rf x' k).hard.vote
                have H7 := Lib.hid (H2.out.below' hb7)
                have HKB7 := Lib.hid (KnB.sl (L' := L') HKB2.out (Fr.of_below hb7) (fun _ _ _ q => q) (fun _ _ q => q))
                clear hb7 H2 HKB2 HR
                go_wp2_with fail
                refine wp_world (fun V => SfSt w V cb x' L' g' (.slice sA ls.length sc) ls (.slice kA2 kn2.length kc2) kn2 tm2 ∧ Sl V (KnB w.heap.size V L') 2 (.slice aA (M.Rf x' k).log.length ac) (M.Rf x' k).log.length (recsCells (M.Rf x' k).log) ∧
                    V.heap[w7.heap.size]? = some (.cells #[.int .i64 (M.Rf x' k).hard.term, .int .i64 k] 40) ∧ (∀ q, (Value.slice sA ls.length sc).ownBlock = some q → q < w7.heap.size))
                  ⟨H7.out.below' ((Below.refl _ _).alloc (Nat.le_refl _) _), KnB.sl (L' := L') HKB7.out (Fr.of_below ((Below.refl _ _).alloc (Nat.le_refl _) _)) (fun _ _ _ q => q) (fun _ _ q => q), heap_alloc_new w7 _, fun q hq => (own_lt H7.out.row hq).2⟩ ?_
                rintro V ⟨hV, hVK, hB, hsvB⟩
                have HV := Lib.hid hV
                have HVK := Lib.hid hVK
                have HB := Lib.hid hB
                have HSVB := Lib.hid hsvB
                clear hV hVK hB hsvB H7 HKB7 hfd
                generalize w7.heap.size = nb at *
                go_loopw [13, 14] (fun fv nv wn => ∃ (f : Bool) (n : Nat), fv = .bool f ∧ nv = .int .i64 n ∧ n ≤ ls.length ∧ Below V.heap.size V wn) (fun _ nv _ => ls.length - (intOf nv).toNat)
                case atStart => exact ⟨true, 0, rfl, rfl, Nat.zero_le _, Below.refl _ _⟩
                case round =>
                  obtain ⟨f, n, rfl, rfl, hn, hbn⟩ := hrel
                  have hB2 := (hbn.block _ (lt_blk HB.out)).trans HB.out
                  have x0 := cell_blk hB2 0
                  have x1 := cell_blk hB2 1
                  simp only [List.getElem?_cons_zero, List.getElem?_cons_succ] at x0 x1
                  have HBN := Lib.hid hbn
                  have HB2 := Lib.hid hB2
                  clear hbn hB2
                  by_cases hnl : n < ls.length
                  · have hnlI : (n : Int) < (ls.length : Int) := by omega
                    have hrow := own_below HV.out.row HBN.out (Nat.le_refl _)
                    obtain ⟨gs, rfl⟩ : ∃ gs, sA = some ⟨gs, 0, none⟩ := by
                      cases sA with
                      | none => have := own_nil hrow rfl; omega
                      | some ad =>
                        obtain ⟨g1, off', sp⟩ := ad
                        obtain ⟨rfl, rfl, _⟩ := own_cell hrow rfl
                        exact ⟨g1, rfl⟩
                    have z0 := (own_cell hrow rfl).2.2.2.2 _ _ (hardsC_at ls n hnl).1
                    have z1 := (own_cell hrow rfl).2.2.2.2 _ _ (hardsC_at ls n hnl).2
                    have hsame : ls[n].term = (M.Rf x' k).hard.term → ls[n].vote = (k : Int) := fun e => HV.out.same hk3 HRO.out (List.getElem_mem hnl) e
                    generalize ls[n] = q at z0 z1 hsame
                    obtain ⟨qt, qv⟩ := q
                    dsimp only at z0 z1 hsame
                    clear hrow
                    by_cases r1 : qt = (M.Rf x' k).hard.term
                    · have r2 := hsame r1
                      rw [r1] at z0
                      rw [r2] at z1
                      clear hsame r1 r2
                      go_upto_region 31 with fail
                      go_quiet (fail)
                      go_upto_region 33 with fail
                      cases f
                      all_goals go_quiet (fail)
                      all_goals go_wp2_with fail
                      all_goals go_roundw
                      all_goals first | exact ⟨_, n + 1, rfl, by go_num, by omega, HBN.out.trans ((below_drewN (Below.refl _ _) _).mono HBN.out.size)⟩ | (simp [intOf]; omega)
                    · have d1 : (qt == (M.Rf x' k).hard.term) = false := by simp [r1]
                      clear hsame r1
                      go_upto_region 31 with fail
                      go_quiet (fail)
                      go_upto_region 33 with fail
                      cases f
                      all_goals go_quiet (fail)
                      all_goals go_wp2_with fail
                      all_goals go_roundw
                      all_goals first | exact ⟨_, n + 1, rfl, by go_num, by omega, HBN.out.trans ((below_drewN (Below.refl _ _) _).mono HBN.out.size)⟩ | (simp [intOf]; omega)
                  · have hgeI : (ls.length : Int) ≤ (n : Int) := by omega
                    cases f
                    · go_wp2_with fail
                      go_roundw
                      case rel => exact ⟨k + 1, ls, kn2, tm2, by go_num, by omega, rfl, by omega, HV.out.below' HBN.out⟩
                      case measure => simp [intOf]; omega
                    · have hwn := HV.out.below' HBN.out
                      have hVK := KnB.sl (L' := L') HVK.out (Fr.of_below HBN.out) (fun _ _ _ q => q) (fun _ _ q => q)
                      have hrow := own_below hwn.row ((Below.refl _ wr).alloc (Nat.le_refl _) (.cells #[.int .i64 (M.Rf x' k).hard.term, .int .i64 k] 40)) (Nat.le_refl _)
                      have hwl := hwn.below.size
                      have hx : ∀ w5, Fr (fun q => (Value.slice sA ls.length sc).ownBlock = some q) wr w5 → w5.cell? ⟨nb, 0, none⟩ = some (.int .i64 (M.Rf x' k).hard.term) := fun w5 hf =>
                        cell_blk ((hf.block nb (lt_blk HB2.out) (fun e => by have := HSVB.out nb e; omega)).trans HB2.out) 0
                      have HX := Lib.hid hx
                      have HWN := Lib.hid hwn
                      have HK := Lib.hid hVK
                      have HROW := Lib.hid hrow
                      have HSL := Lib.hid (sl_one_hard wr ⟨(M.Rf x' k).hard.term, k⟩)
                      clear hwn hVK hrow hx HV HVK
                      by_cases ht : tm2 < (M.Rf x' k).hard.term
                      · obtain ⟨hl1, hl2⟩ := HWN.out.leads hk3 HRO.out ht
                        have hl1I : (kn2.length : Int) ≤ ((M.Rf x' k).log.length : Int) := by omega
                        have HL2 := Lib.hid hl2
                        clear hl2
                        go_wp2_with (at_builtin; refine wpList_append_sl _ rfl _ _ 69 rfl w.heap.size 40 _ 2 16 Try.underlying69 info40 rfl (by decide) _ ls.length (hardsC ls) rfl HROW.out (wr.heap.size ≤ ·) _ 1 (hardsC [⟨(M.Rf x' k).hard.term, k⟩]) rfl HSL.out ?_ ?_ ?_ ?_ ?_; rotate_left 4; intro v' w5 hown hg hat; obtain ⟨A5, n5, rfl⟩ := own_form hown; have x0 := HX.out w5 (((Fr.refl _ wr).alloc _).grown hg (fun q hq => .inl hq)))
                        · have hf5 : Fr (fun q => (Value.slice sA ls.length sc).ownBlock = some q) wr w5 := ((Fr.refl _ wr).alloc _).grown hg (fun q hq => .inl hq)
                          have hps := HWN.out.push hk3 HRO.out hf5 hown
                          have hvk := KnB.sl (L' := L') HK.out hf5 (fun q hq _ e => hq.ne (own_kind HWN.out.row e) (by decide) rfl) (fun _ _ q => q)
                          have hbc := begins_calls kn2 (M.Rf x' k).log _ _ hps.krow hvk
                          rw [HL2.out] at hbc
                          refine hbc.mono ?_
                          rintro e w6 ⟨rfl, hb6⟩
                          have HFIN := Lib.hid (hps.below' hb6)
                          clear hbc hb6 hps hvk hf5 hown hg hat HL2 HROW HSL HWN HK HX HB2 HBN HB HSVB
                          go_wp2_with fail
                          go_roundw
                          case rel => exact ⟨k + 1, ls ++ [⟨(M.Rf x' k).hard.term, k⟩], kn2, tm2, by go_num, by omega, rfl, by simp; omega, HFIN.out⟩
                          case measure => simp [intOf]; omega
                        · exact hardsC_one _
                        · simp only [maxLen]; omega
                        · omega
                        · omega
                      · have htI : (M.Rf x' k).hard.term ≤ tm2 := by omega
                        go_wp2_with (at_builtin; refine wpList_append_sl _ rfl _ _ 69 rfl w.heap.size 40 _ 2 16 Try.underlying69 info40 rfl (by decide) _ ls.length (hardsC ls) rfl HROW.out (wr.heap.size ≤ ·) _ 1 (hardsC [⟨(M.Rf x' k).hard.term, k⟩]) rfl HSL.out ?_ ?_ ?_ ?_ ?_; rotate_left 4; intro v' w5 hown hg hat; obtain ⟨A5, n5, rfl⟩ := own_form hown; have x0 := HX.out w5 (((Fr.refl _ wr).alloc _).grown hg (fun q hq => .inl hq)))
                        · have hf5 : Fr (fun q => (Value.slice sA ls.length sc).ownBlock = some q) wr w5 := ((Fr.refl _ wr).alloc _).grown hg (fun q hq => .inl hq)
                          have HFIN := Lib.hid (HWN.out.push hk3 HRO.out hf5 hown)
                          clear hf5 hown hg hat HROW HSL HWN HK HX HB2 HBN HB HSVB
                          go_roundw
                          case rel => exact ⟨k + 1, ls ++ [⟨(M.Rf x' k).hard.term, k⟩], kn2, tm2, by go_num, by omega, rfl, by simp; omega, HFIN.out⟩
                          case measure => simp [intOf]; omega
                        · exact hardsC_one _
                        · simp only [maxLen]; omega
                        · omega
                        · omega
              · have q1 : ((M.Rf x' k).role != 2) = true := by simp [hrole]
                clear hrole
                go_wp2_with (go_at_call 15; refine (role_calls HR.out).mono ?_; rintro e w' ⟨rfl, rfl⟩)
                go_roundw
                case rel => exact ⟨k + 1, ls, kn2, tm2, by go_num, by omega, rfl, by omega, H2.out⟩
                case measure => simp [intOf]; omega
          · have hgeI : (3 : Int) ≤ (k : Int) := by omega
            clear hst
            go_wp2_with fail
            go_roundw
            case rel => exact ⟨i + 1, x', L', g', ls, kn, tm, by go_num, by omega, rfl, by omega, HST.out⟩
            case measure => simp [intOf]; omega
      · have hgeI : (l.length : Int) ≤ (i : Int) := by omega
        go_wp2_with fail
        go_ret
        exact ⟨rfl, HST.out.below⟩
end Go.Proofs.Ytodmihpmbecncaa
