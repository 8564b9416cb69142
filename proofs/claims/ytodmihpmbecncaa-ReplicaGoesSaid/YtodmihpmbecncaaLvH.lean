/-
  Walk of the law ReplicaGoes: it answers true. Condition: the operations lie in memory.
-/
import Derived.Test.YtodmihpmbecncaaLvG
namespace Go.Proofs.Ytodmihpmbecncaa
open Go.RowKit

set_option maxRecDepth 100000 in
set_option maxHeartbeats 3200000 in
theorem goes_calls {ok : Nat → Prop} {w : World} (l : List M.Op) (v : Value) (d : ByteArray) (hs : Sl w ok 4 v l.length (opsCells l)) (hd : ∀ o ∈ l, o.data.size ≤ 9223372036854775807) (hdd : d.size ≤ 9223372036854775807) :
    Calls Try.prog 4 #[v, .string d] w fun e w' => e = .returned (.bool true) ∧ Below w.heap.size w w' := by
  obtain ⟨lA, lc, rfl⟩ := Sl.form hs
  have hlen := hs.2.1
  have HD := Lib.hid hd
  have HS := Lib.hid hs
  clear hs hd
  go_enter Try.func4, Try.ntmps4
  go_wp2_with fail
  refine (small_calls w).mono ?_
  rintro e w1 ⟨rfl, hb1⟩
  have HB1 := Lib.hid hb1
  clear hb1
  go_wp2_with fail
  refine (begin_calls w1).mono ?_
  rintro e w2 hp
  obtain ⟨L0, rfl, hok, hcl, hb2⟩ := hp
  have hv : GoSt w w2 w1.heap.size M.begin_ L0 M.gh0 0 := by
    have h1 := HB1.out.size
    exact ⟨⟨HB1.out.trans (hb2.mono h1), hok, M.pinv_begin, fun k hk => by have := hcl k hk; omega⟩, M.bd_begin⟩
  have HV := Lib.hid hv
  clear hok hcl hb2 hv HB1
  unfold ptrV
  generalize w1.heap.size = cb at *
  go_wp2_with fail
  refine (few_calls l (.slice lA l.length lc) 100 (HS.out.below HV.out.below (Nat.le_refl _)) HD.out).mono ?_
  rintro e w' ⟨rfl, rfl⟩
  cases hfew : fewB l 100
  · go_wp2_with fail
    go_ret
    exact ⟨rfl, HV.out.below⟩
  · have hl100 : l.length ≤ 100 := by
      unfold fewB at hfew
      rw [Bool.and_eq_true] at hfew
      simpa using hfew.2
    clear hfew
    by_cases hd40 : (40 : Int) < ((d.size : Nat) : Int)
    · go_wp2_with fail
      go_ret
      exact ⟨rfl, HV.out.below⟩
    have hd40I : ((d.size : Nat) : Int) ≤ 40 := by omega
    clear hd40
    go_wp2_with fail
    go_loopw [7] (fun iv wr => ∃ (i : Nat) (x : M.Cl) (L : Lay) (g : M.Gh), iv = .int .i64 i ∧ i ≤ l.length ∧ GoSt w wr cb x L g i) (fun iv _ => l.length - (intOf iv).toNat)
    case atStart => exact ⟨0, _, _, _, rfl, Nat.zero_le _, HV.out⟩
    case round =>
      clear HV
      obtain ⟨i, x, L, g, rfl, hi, hst⟩ := hrel
      have HST := Lib.hid hst
      by_cases hlt : i < l.length
      · have hltI : (i : Int) < (l.length : Int) := by omega
        clear hst
        have hS2 := HS.out.below HST.out.below (Nat.le_refl _)
        obtain ⟨_, _, A', c', hA, hcap, hc63, h6⟩ := hS2
        cases hA
        rcases h6 with h6 | ⟨bl, off, rfl, _, hbl, hc⟩
        · omega
        obtain ⟨z0, z1, z2, z3⟩ := opsCells_at l i hlt
        have y0 := hc _ _ z0
        have y1 := hc _ _ z1
        have y2 := hc _ _ z2
        have y3 := hc _ _ z3
        rw [← Nat.add_assoc] at y1 y2 y3
        have hdo := HD.out l[i] (List.getElem_mem hlt)
        generalize hop : l[i] = o at y0 y1 y2 y3 hdo
        clear z0 z1 z2 z3 hc hop
        go_wp2_with fail
        have hcc := step_calls HST.out.cl HST.out.inv o hdo
        unfold ptrV at hcc
        refine hcc.mono ?_
        rintro e w3 hp
        obtain ⟨rfl, L', g', hst'⟩ := HST.out.step hp
        have HST' := Lib.hid hst'
        clear hp hst' hcc y0 y1 y2 y3 HST
        go_wp2_with fail
        go_roundw
        case rel => exact ⟨i + 1, _, L', g', by go_num, by omega, HST'.out⟩
        case measure => simp [intOf]; omega
      · have hgeI : (l.length : Int) ≤ (i : Int) := by omega
        have c2 := hst.cl.cells.2.2
        have f2 := free_blk hst.cl.blk 2
        clear hst
        go_wp2_with fail
        have h100 : (i : Int) ≤ 100 := by omega
        refine wp_world (fun V => GoSt w V cb { x with sent := [] } { L with mA := none, mc := 0 } g 100) ⟨HST.out.lose.toLwSt, HST.out.lose.bd.mono h100⟩ ?_
        rintro V hV
        have HV := Lib.hid hV
        clear hV HST c2 f2
        have hx0 : ({ x with sent := [] } : M.Cl).sent = [] := rfl
        generalize ({ x with sent := [] } : M.Cl) = x0 at *
        generalize ({ L with mA := none, mc := 0 } : Lay) = L0 at *
        go_loopw [8] (fun jv wr => ∃ (k : Nat) (y : M.Cl), jv = .int .i64 k ∧ k ≤ 3 ∧ GoSt w wr cb y L0 g 100 ∧ y.sent = [] ∧ ∀ j, j < k → (y.s.getD j M.zSt).stop = 0) (fun jv _ => 3 - (intOf jv).toNat)
        case atStart => exact ⟨0, x0, rfl, Nat.zero_le _, HV.out, hx0, fun j hj => by omega⟩
        case round =>
          clear HV hx0
          obtain ⟨k, y, rfl, hk, hst, hy0, hstop⟩ := hrel
          have HST := Lib.hid hst
          have HY0 := Lib.hid hy0
          have HSTOP := Lib.hid hstop
          clear hy0 hstop
          by_cases hk3 : k < 3
          · have hk3I : (k : Int) < 3 := by omega
            have c1 := hst.cl.cells.2.1
            have s3 := (hst.cl.scells hk3).2.2.2
            have f3 := hst.cl.sfree (k * 4 + 3)
            clear hst
            go_wp2_with fail
            go_roundw
            case rel =>
              refine ⟨k + 1, _, by go_num, by omega, HST.out.calm hk3, HY0.out, fun j hj => ?_⟩
              show ((y.s.set k { y.s.getD k M.zSt with stop := 0 }).getD j M.zSt).stop = 0
              by_cases e : j = k
              · subst e; rw [M.getD_set_eq _ _ _ _ (by rw [HST.out.inv.sN]; exact hk3)]
              · rw [M.getD_set_ne _ _ _ (fun q => e q.symm)]; exact HSTOP.out j (by omega)
            case measure => simp [intOf]; omega
          · have hgeI : (3 : Int) ≤ (k : Int) := by omega
            have hq := HST.out.quiet HY0.out (fun i hi => HSTOP.out i (by omega))
            have HQ := Lib.hid hq
            have HL := Lib.hid hst.toLwSt
            clear hst hq HST HY0 HSTOP
            go_upto_block 4 with fail
            go_cut [9, 10] (fun lv _ wx => ∃ (n' p : Nat) (L1 : Lay) (g1 : M.Gh), lv = .int .i64 (p : Int) ∧ n' + 1 ≤ 18 ∧ p = n' % 3 ∧ LwSt w wx cb (M.turns (n' + 1) y) L1 g1 ∧ (M.Rf (M.turns (n' + 1) y) p).role = 2)
            case first =>
              go_wp2_with fail
              go_loopw [9, 10] (fun lv nv wr => ∃ (n : Nat) (lead : Int) (L1 : Lay) (g1 : M.Gh), nv = .int .i64 n ∧ n ≤ 18 ∧ lv = .int .i64 lead ∧ LwSt w wr cb (M.turns n y) L1 g1 ∧ ((lead = -1 ∧ ∀ k, k < n → (M.Rf (M.turns (k + 1) y) (k % 3)).role ≠ 2) ∨ (∃ p : Nat, lead = p ∧ 1 ≤ n ∧ p = (n - 1) % 3 ∧ (M.Rf (M.turns n y) p).role = 2))) (fun _ nv _ => 18 - (intOf nv).toNat)
              case atStart => exact ⟨0, -1, L0, g, rfl, Nat.zero_le _, rfl, HL.out, .inl ⟨rfl, fun k hk => by omega⟩⟩
              case round =>
                clear HL
                obtain ⟨n, lead, L1, g1, rfl, hn, rfl, hlw, hld⟩ := hrel
                have HLW := Lib.hid hlw
                rcases hld with ⟨rfl, hno⟩ | ⟨p, rfl, hn1, hp, hrole⟩
                · have hn5 : n < 5 := by
                    obtain ⟨n0, h1, h2⟩ := M.turns_five HQ.out (by omega)
                    refine Decidable.byContradiction fun q => hno n0 (by omega) h2
                  have hnI : (n : Int) < 18 := by omega
                  have hi3 : n % 3 < 3 := Nat.mod_lt n (by decide)
                  have c0 := hlw.cl.cells.1
                  have hr0 := hlw.cl.rcell hi3
                  unfold ptrV at hr0
                  have HNO := Lib.hid hno
                  have hmod : Int.tmod (n : Int) 3 = ((n % 3 : Nat) : Int) := rfl
                  have hm3I : ((n % 3 : Nat) : Int) < 3 := by omega
                  clear hlw hno
                  go_wp2_with fail
                  refine (tick_calls (HLW.out.rep hi3 (Below.refl _ _))).mono ?_
                  rintro e w4 ⟨A', cap', rv, sv, rfl, hR, hA, hO, hF⟩
                  have hdn := after_done HLW.out.cl HLW.out.inv hi3 hR hA hO hF (M.tick_stores _) (M.tick_id _) (M.tick_fr _)
                  unfold ptrV at hdn
                  have HDN := Lib.hid hdn
                  clear hdn hR hA hO hF c0 hr0
                  go_wp2_with fail
                  refine HDN.out.mono ?_
                  rintro e w5 hp5
                  obtain ⟨g5, _, P5⟩ := M.pinv_done HLW.out.inv hi3 (M.tick_good HLW.out.inv.inv hi3 (HLW.out.wf _ hi3)) (M.tick_stores _)
                  obtain ⟨rfl, L5, h5⟩ := HLW.out.after P5 hp5
                  have H5 := Lib.hid h5
                  clear HDN hp5 h5 P5
                  go_wp2_with fail
                  have hfl := flow_calls H5.out.cl H5.out.inv
                  unfold ptrV at hfl
                  refine hfl.mono ?_
                  rintro e w6 hp6
                  have hq6 : M.Quiet (100 + n + 1) (M.turn (M.turns n y) (n % 3)) := (M.turn_ok (M.turns_quiet HQ.out n (by omega)) (by omega) hi3).1
                  obtain ⟨g6, P6⟩ := hq6.still.pi
                  obtain ⟨rfl, L6, h6⟩ := H5.out.after (x2 := M.turn (M.turns n y) (n % 3)) P6 hp6
                  have c0 := h6.cl.cells.1
                  have hr0 := h6.cl.rcell hi3
                  unfold ptrV at hr0
                  have h6' : LwSt w w6 cb (M.turns (n + 1) y) L6 g6 := h6
                  have H6 := Lib.hid h6'
                  clear hfl hp6 hq6 P6 h6 h6' H5 HLW
                  by_cases hrole : (M.Rf (M.turns (n + 1) y) (n % 3)).role = 2
                  · have HRO := Lib.hid hrole
                    have q1 : ((M.Rf (M.turns (n + 1) y) (n % 3)).role == 2) = true := by simp [hrole]
                    clear hrole
                    go_wp2_with (go_at_call 15; refine (role_calls (H6.out.rep hi3 (Below.refl _ _))).mono ?_; rintro e w' ⟨rfl, rfl⟩)
                    go_roundw
                    case rel => exact ⟨n + 1, ((n % 3 : Nat) : Int), L6, g6, by go_num, by omega, rfl, H6.out, .inr ⟨n % 3, rfl, by omega, by simp, HRO.out⟩⟩
                    case measure => simp [intOf]; omega
                  · have HRO := Lib.hid hrole
                    have q1 : ((M.Rf (M.turns (n + 1) y) (n % 3)).role == 2) = false := by simp [hrole]
                    clear hrole
                    go_wp2_with (go_at_call 15; refine (role_calls (H6.out.rep hi3 (Below.refl _ _))).mono ?_; rintro e w' ⟨rfl, rfl⟩)
                    go_roundw
                    case rel =>
                      refine ⟨n + 1, -1, L6, g6, by go_num, by omega, rfl, H6.out, .inl ⟨rfl, fun k hk => ?_⟩⟩
                      by_cases e : k = n
                      · subst e; exact HRO.out
                      · exact HNO.out k (by omega)
                    case measure => simp [intOf]; omega
                · obtain ⟨n', rfl⟩ : ∃ n', n = n' + 1 := ⟨n - 1, by omega⟩
                  have hp0I : (0 : Int) ≤ (p : Int) := by omega
                  have HP := Lib.hid hp
                  have HR := Lib.hid hrole
                  have HN := Lib.hid hn
                  clear hp hrole hlw hn1
                  go_wp2_with fail
                  all_goals go_meet
                  all_goals exact ⟨n', p, L1, g1, rfl, HN.out, by rw [HP.out]; simp, HLW.out, HR.out⟩
            case rest =>
              obtain ⟨n', p, L1, g1, rfl, hn, hp', hlw, hrole⟩ := hcut
              have HLW := Lib.hid hlw
              clear HL
              have hp3 : p < 3 := by rw [hp']; exact Nat.mod_lt n' (by decide)
              have hQz := M.turns_quiet HQ.out (n' + 1) (by omega)
              obtain ⟨T, lg, hFin⟩ := M.turn_fin (M.turns_quiet HQ.out n' (by omega)) (by omega) (Nat.mod_lt n' (by decide)) (by have hr2 := hrole; rw [hp'] at hr2; exact hr2)
              have hFz : M.Fin p T lg False (M.Rf (M.turns (n' + 1) y)) := by rw [hp']; exact hFin
              clear hFin hrole hp'
              generalize M.turns (n' + 1) y = z at *
              have HQz := Lib.hid hQz
              have HFz := Lib.hid hFz
              have hp3I : (p : Int) < 3 := by omega
              have hp0I : (0 : Int) ≤ (p : Int) := by omega
              have c0 := hlw.cl.cells.1
              have hr0 := hlw.cl.rcell hp3
              unfold ptrV at hr0
              have hlt : (M.Rf z p).role = 2 → 1 ≤ (M.Rf z p).hard.term := fun e => M.pinv_lt hlw.inv hlw.wf p hp3 (by rw [e]; decide)
              have HLT := Lib.hid hlt
              have HN := Lib.hid hn
              clear hlw hQz hFz hlt HQ hn
              go_wp2_with fail
              refine (propose_calls (HLW.out.rep hp3 (Below.refl _ _)) d hdd HLT.out).mono ?_
              have hpo := M.propose_ok (d := d) HQz.out (by have := HN.out; omega) HFz.out (by omega)
              have HPO := Lib.hid hpo
              have hst := M.propose_stores (M.Rf z p) d
              have hid := M.propose_id (M.Rf z p) d
              have hfr := M.propose_fr (M.Rf z p) d (HLW.out.wf p hp3).len
              have hgd := M.propose_good HLW.out.inv.inv hp3 (HLW.out.wf p hp3) d (M.pinv_lt HLW.out.inv HLW.out.wf p hp3)
              have HST := Lib.hid hst
              have HID := Lib.hid hid
              have HFR := Lib.hid hfr
              have HGD := Lib.hid hgd
              clear hpo hst hid hfr hgd
              generalize M.propose (M.Rf z p) d = pp at *
              obtain ⟨r', n2, k2, o'⟩ := pp
              rintro e w4 ⟨A', cap', rv, sv, rfl, hR, hA, hO, hF⟩
              obtain ⟨rA', rc', rfl⟩ := own_form hO.recs
              obtain ⟨sA', sc', rfl⟩ := msgs_form hO.send
              have HR := Lib.hid hR
              have HA := Lib.hid hA
              have HO := Lib.hid hO
              have HF := Lib.hid hF
              clear hR hA hO hF c0 hr0
              obtain ⟨hn2, hk2, hq2, hf2⟩ := HPO.out
              dsimp only at hn2 hk2 hq2 hf2
              subst hk2
              have HQ2 := Lib.hid hq2
              have HF2 := Lib.hid hf2
              have HN2 := Lib.hid hn2
              clear hn2 hq2 hf2 HPO
              have hz := heap_alloc_new w4 (.cells #[.bool false, .int .i64 0, .int .i64 0, .int .i64 0, .slice none 0 0, .slice none 0 0] 45)
              have hbz : Below w4.heap.size w4 (w4.alloc (.cells #[.bool false, .int .i64 0, .int .i64 0, .int .i64 0, .slice none 0 0, .slice none 0 0] 45)) := (Below.refl _ _).alloc (Nat.le_refl _) _
              have HWS : Hid (wc.heap.size ≤ w4.heap.size) := HF.out.size
              have HZ := Lib.hid hz
              have HRZ := Lib.hid (HR.out.below hbz (Nat.le_refl _))
              have HAZ : Hid (FreshRow wc (w4.alloc (.cells #[.bool false, .int .i64 0, .int .i64 0, .int .i64 0, .slice none 0 0, .slice none 0 0] 45)) (L1.As p) A' o' (.slice rA' o'.recs.length rc') (.slice sA' o'.send.length sc')) := HA.out.imp id (fun h ad e => ⟨(h ad e).1, (h ad e).2.1, (h ad e).2.2.fr (S := fun _ => False) (Fr.of_below hbz) (fun _ _ _ h => h)⟩)
              have HOZ := Lib.hid (HO.out.fr (S := fun _ => False) (Fr.of_below hbz) (fun _ _ _ h => h))
              have HFZ := Lib.hid (HF.out.alloc (.cells #[.bool false, .int .i64 0, .int .i64 0, .int .i64 0, .slice none 0 0, .slice none 0 0] 45))
              clear hz hbz HR HA HO HF
              go_upto_region 26 with (refine wpList_store_list rfl 45 (.tmp 13) (.tmp 114) rfl w4.heap.size _ rfl rfl 45 _ HZ.out 6 size45 rfl rfl rfl ?_)
              generalize hwz : w4.alloc (.cells #[.bool false, .int .i64 0, .int .i64 0, .int .i64 0, .slice none 0 0, .slice none 0 0] 45) = wz at *
              generalize hzs : w4.heap.size = Z at *
              have hx := setRow_heap _ _ _ #[.bool o'.save, .int .i64 o'.hard.term, .int .i64 o'.hard.vote, .int .i64 o'.fr, .slice rA' o'.recs.length rc', .slice sA' o'.send.length sc'] _ _ HZ.out
              have hks : ∀ k, Kind wz k 37 ∨ Kind wz k 55 → ¬ k = Z := fun k hk e => by
                rcases hk with hk | hk
                · exact hk.ne ⟨_, _, HZ.out⟩ (by decide) e
                · exact hk.ne ⟨_, _, HZ.out⟩ (by decide) e
              have hfs := fr_setRow wz Z #[.bool o'.save, .int .i64 o'.hard.term, .int .i64 o'.hard.vote, .int .i64 o'.fr, .slice rA' o'.recs.length rc', .slice sA' o'.send.length sc']
              refine wp_world (fun V => RepOk V (L1.bs p) r' A' cap' ∧ FreshRow wc V (L1.As p) A' o' (.slice rA' o'.recs.length rc') (.slice sA' o'.send.length sc') ∧ OutOk V wc.heap.size o' (.slice rA' o'.recs.length rc') (.slice sA' o'.send.length sc') ∧ Fr (RepS (L1.bs p) (L1.As p)) wc V ∧
                  V.heap[Z]? = some (.cells #[.bool o'.save, .int .i64 o'.hard.term, .int .i64 o'.hard.vote, .int .i64 o'.fr, .slice rA' o'.recs.length rc', .slice sA' o'.send.length sc'] 45)) ⟨HRZ.out.fr hfs (fun k hk e => by
                  rcases hk with rfl | ⟨ad, e1, rfl⟩
                  · exact HRZ.out.kind.ne ⟨_, _, HZ.out⟩ (by decide) e
                  · exact hks _ (.inr (own_kind HRZ.out.own (k := ad.block) (by rw [e1]; rfl))) e),
                HAZ.out.imp id (fun h ad e => ⟨(h ad e).1, (h ad e).2.1, (h ad e).2.2.fr hfs (fun k _ hk => hks k hk)⟩), HOZ.out.fr hfs (fun k _ hk => hks k hk), HFZ.out.trans2 hfs (fun k e => .inr (by rw [e]; exact HWS.out)), hx⟩ ?_
              rintro V ⟨hR, hA, hO, hF, hX⟩
              have hdn := after_done HLW.out.cl HLW.out.inv hp3 hR hA hO hF HST.out HID.out HFR.out
              unfold ptrV at hdn
              have HDN := Lib.hid hdn
              have z0 := cell_blk hX 0
              have z1 := cell_blk hX 1
              have z2 := cell_blk hX 2
              have z3 := cell_blk hX 3
              have z4 := cell_blk hX 4
              have z5 := cell_blk hX 5
              simp only [List.getElem?_cons_zero, List.getElem?_cons_succ] at z0 z1 z2 z3 z4 z5
              clear hdn hR hA hO hF hX hfs hks hx HZ HRZ HAZ HOZ HFZ hwz
              go_wp2_with fail
              refine HDN.out.mono ?_
              rintro e w5 hp5
              obtain ⟨g5, _, P5⟩ := M.pinv_done HLW.out.inv hp3 HGD.out HST.out
              obtain ⟨rfl, L5, h5⟩ := HLW.out.after P5 hp5
              have H5 := Lib.hid h5
              clear HDN hp5 h5 P5 z0 z1 z2 z3 z4 z5 HGD HST HID HFR HLT HLW HWS
              go_wp2_with fail
              have hfl := flow_calls H5.out.cl H5.out.inv
              unfold ptrV at hfl
              refine hfl.mono ?_
              rintro e w6 hp6
              obtain ⟨g6, P6⟩ := HQ2.out.still.pi
              obtain ⟨rfl, L6, h6⟩ := H5.out.after P6 hp6
              have h6' : LwSt w w6 cb (M.flow 2000 (M.done { z with r := z.r.set p r' } p o')) L6 g6 := h6
              have HQ2' : Hid (M.Quiet (100 + ((n' + 1 : Nat) : Int) + 1) (M.flow 2000 (M.done { z with r := z.r.set p r' } p o'))) := HQ2
              have HF2' : Hid (M.Fin p T (lg ++ [⟨T, d⟩]) True (M.Rf (M.flow 2000 (M.done { z with r := z.r.set p r' } p o')))) := HF2
              clear hfl hp6 P6 h6 H5 HQ2 HF2
              generalize M.flow 2000 (M.done { z with r := z.r.set p r' } p o') = zz at *
              have hcm := M.fin_commit HF2'.out
              have hl1 : (((lg ++ [(⟨T, d⟩ : Rec)]).length : Nat) : Int) = n2 := by rw [HN2.out]; simp
              rw [hl1] at hcm
              have c0 := h6'.cl.cells.1
              have hr0 := h6'.cl.rcell hp3
              unfold ptrV at hr0
              have H6 := Lib.hid h6'
              have hcc := commit_calls (H6.out.rep hp3 (Below.refl _ _))
              rw [hcm] at hcc
              have HCC := Lib.hid hcc
              have HL1 := Lib.hid hl1
              clear h6' hcm hcc hl1
              go_wp2_with (go_at_call 17; refine HCC.out.mono ?_; rintro e w' ⟨rfl, rfl⟩)
              refine (tick_calls (H6.out.rep hp3 (Below.refl _ _))).mono ?_
              rintro e w7 ⟨A7, cap7, rv7, sv7, rfl, hR, hA, hO, hF⟩
              have hdn := after_done H6.out.cl H6.out.inv hp3 hR hA hO hF (M.tick_stores _) (M.tick_id _) (M.tick_fr _)
              unfold ptrV at hdn
              have HDN := Lib.hid hdn
              clear hdn hR hA hO hF c0 hr0 HCC
              go_wp2_with fail
              refine HDN.out.mono ?_
              rintro e w8 hp8
              obtain ⟨g8, _, P8⟩ := M.pinv_done H6.out.inv hp3 (M.tick_good H6.out.inv.inv hp3 (H6.out.wf _ hp3)) (M.tick_stores _)
              obtain ⟨rfl, L8, h8⟩ := H6.out.after P8 hp8
              have H8 := Lib.hid h8
              clear HDN hp8 h8 P8
              go_wp2_with fail
              have hfl := flow_calls H8.out.cl H8.out.inv
              unfold ptrV at hfl
              refine hfl.mono ?_
              rintro e w9 hp9
              have hls : (lg ++ [(⟨T, d⟩ : Rec)]).length = lg.length + 1 := by simp
              obtain ⟨hq9, hall⟩ := M.last_ok HQ2'.out HF2'.out (by rw [hls, M.tn_snoc]) (by rw [hls]; omega)
              obtain ⟨g9, P9⟩ := hq9.still.pi
              obtain ⟨rfl, L9, h9⟩ := H8.out.after (x2 := M.turn zz p) P9 hp9
              rw [HL1.out] at hall
              have H9 := Lib.hid h9
              have HALL := Lib.hid hall
              clear hfl hp9 hq9 P9 h9 hall H8 H6 HQ2' HF2'
              generalize M.turn zz p = z9 at *
              go_wp2_with fail
              go_loopw [14] (fun jv wn => ∃ k : Nat, jv = .int .i64 k ∧ k ≤ 3 ∧ LwSt w wn cb z9 L9 g9) (fun jv _ => 3 - (intOf jv).toNat)
              case atStart => exact ⟨0, rfl, Nat.zero_le _, H9.out⟩
              case round =>
                clear H9
                obtain ⟨k, rfl, hk, hst⟩ := hrel
                have HST := Lib.hid hst
                by_cases hk3 : k < 3
                · have hk3I : (k : Int) < 3 := by omega
                  obtain ⟨hlk, hck⟩ := HALL.out k hk3
                  have hlp := (HALL.out p hp3).1
                  have hSS : ∀ w', Below wr.heap.size wr w' → (Below wr.heap.size wr w' ∧ w'.cell? ⟨cb, 0, none⟩ = some (.slice (some ⟨L9.rA, 0, none⟩) 3 L9.rc) ∧ w'.cell? ⟨L9.rA, k, none⟩ = some (.pointer (some ⟨L9.bs k, 0, none⟩)) ∧ w'.cell? ⟨L9.rA, p, none⟩ = some (.pointer (some ⟨L9.bs p, 0, none⟩))) := fun w' hb =>
                    have h' := hst.below' hb
                    ⟨hb, h'.cl.cells.1, h'.cl.rcell hk3, h'.cl.rcell hp3⟩
                  have HSS := Lib.hid hSS
                  clear hst hSS
                  go_upto_region 33 with fail
                  refine wp_region_noPanic ?_
                  refine wp_region_held_drew (S := fun w' => Below wr.heap.size wr w' ∧ w'.cell? ⟨cb, 0, none⟩ = some (.slice (some ⟨L9.rA, 0, none⟩) 3 L9.rc) ∧ w'.cell? ⟨L9.rA, k, none⟩ = some (.pointer (some ⟨L9.bs k, 0, none⟩)) ∧ w'.cell? ⟨L9.rA, p, none⟩ = some (.pointer (some ⟨L9.bs p, 0, none⟩))) (by kernel_rfl) (HSS.out _ (Below.refl _ _).drew) (fun hHeld => ?_)
                  refine wpAnyH_take (i := 0) (v := ?_) rfl (by kernel_rfl) (by kernel_rfl) (by kernel_rfl) (fun _ _ _ h => h) (Or.inl ⟨by rfl, ?_⟩) (by assumption) ?_
                  rotate_left 1
                  · intro w' hSw
                    (try dsimp only at hSw)
                    go_simp
                    (try with_reducible rfl)
                  (try simp only [Act.put, List.getElem_toArray, List.getElem_cons_zero, List.getElem_cons_succ, List.setIfInBounds_toArray, List.set_cons_zero, List.set_cons_succ])
                  refine wpAnyH_take (i := 1) (v := ?_) rfl (by kernel_rfl) (by kernel_rfl) (by kernel_rfl) (fun _ _ _ h => h) (Or.inl ⟨by rfl, ?_⟩) (by assumption) ?_
                  rotate_left 1
                  · intro w' hSw
                    (try dsimp only at hSw)
                    go_simp
                    (try with_reducible rfl)
                  (try simp only [Act.put, List.getElem_toArray, List.getElem_cons_zero, List.getElem_cons_succ, List.setIfInBounds_toArray, List.set_cons_zero, List.set_cons_succ])
                  refine wpAnyH_take (i := 2) (v := ?_) rfl (by kernel_rfl) (by kernel_rfl) (by kernel_rfl) (fun _ _ _ h => h) (Or.inl ⟨by rfl, ?_⟩) (by assumption) ?_
                  rotate_left 1
                  · intro w' hSw
                    (try dsimp only at hSw)
                    go_simp
                    (try with_reducible rfl)
                  (try simp only [Act.put, List.getElem_toArray, List.getElem_cons_zero, List.getElem_cons_succ, List.setIfInBounds_toArray, List.set_cons_zero, List.set_cons_succ])
                  refine wpAnyH_take (i := 3) (v := ?_) rfl (by kernel_rfl) (by kernel_rfl) (by kernel_rfl) (fun _ _ _ h => h) (Or.inl ⟨by rfl, ?_⟩) (by assumption) ?_
                  rotate_left 1
                  · intro w' hSw
                    (try dsimp only at hSw)
                    go_simp
                    (try with_reducible rfl)
                  (try simp only [Act.put, List.getElem_toArray, List.getElem_cons_zero, List.getElem_cons_succ, List.setIfInBounds_toArray, List.set_cons_zero, List.set_cons_succ])
                  refine wpAnyH_take (i := 4) (v := ?_) rfl (by kernel_rfl) (by kernel_rfl) (by kernel_rfl) (fun _ _ _ h => h) (Or.inl ⟨by rfl, ?_⟩) (by assumption) ?_
                  rotate_left 1
                  · intro w' hSw
                    (try dsimp only at hSw)
                    go_simp
                    (try with_reducible rfl)
                  (try simp only [Act.put, List.getElem_toArray, List.getElem_cons_zero, List.getElem_cons_succ, List.setIfInBounds_toArray, List.set_cons_zero, List.set_cons_succ])
                  refine wpAnyH_take (i := 5) (v := ?_) rfl (by kernel_rfl) (by kernel_rfl) (by kernel_rfl) (fun _ _ _ h => h) (Or.inl ⟨by rfl, ?_⟩) (by assumption) ?_
                  rotate_left 1
                  · intro w' hSw
                    (try dsimp only at hSw)
                    go_simp
                    (try with_reducible rfl)
                  (try simp only [Act.put, List.getElem_toArray, List.getElem_cons_zero, List.getElem_cons_succ, List.setIfInBounds_toArray, List.set_cons_zero, List.set_cons_succ])
                  refine wpAnyH_take (i := 6) (v := ?_) rfl (by kernel_rfl) (by kernel_rfl) (by kernel_rfl) (fun _ _ _ h => h) (Or.inl ⟨by rfl, ?_⟩) (by assumption) ?_
                  rotate_left 1
                  · intro w' hSw
                    (try dsimp only at hSw)
                    go_simp
                    (try with_reducible rfl)
                  (try simp only [Act.put, List.getElem_toArray, List.getElem_cons_zero, List.getElem_cons_succ, List.setIfInBounds_toArray, List.set_cons_zero, List.set_cons_succ])
                  refine wpAnyH_take (i := 8) (v := ?_) rfl (by kernel_rfl) (by kernel_rfl) (by kernel_rfl) (fun _ _ _ h => h) (Or.inl ⟨by rfl, ?_⟩) (by assumption) ?_
                  rotate_left 1
                  · intro w' hSw
                    (try dsimp only at hSw)
                    go_simp
                    (try with_reducible rfl)
                  (try simp only [Act.put, List.getElem_toArray, List.getElem_cons_zero, List.getElem_cons_succ, List.setIfInBounds_toArray, List.set_cons_zero, List.set_cons_succ])
                  refine wpAnyH_ready (rs := [7]) (by kernel_rfl) (by simp) ?_
                  refine AllReadyH.cons rfl (fun K hK => ?_) AllReadyH.nil
                  clear hHeld
                  go_simp
                  go_at_call 17
                  have hcc := commit_calls (HST.out.rep hk3 (Below.refl _ _).drew)
                  rw [hck] at hcc
                  refine hcc.mono ?_
                  rintro e w' ⟨rfl, rfl⟩
                  refine hK.out _ _ (HSS.out _ (Below.refl _ _).drew) (fun hHeld2 => ?_)
                  clear hK K hcc
                  (try simp only [Act.put, List.getElem_toArray, List.getElem_cons_zero, List.getElem_cons_succ, List.setIfInBounds_toArray, List.set_cons_zero, List.set_cons_succ])
                  refine wpAnyH_take (i := 9) (v := ?_) rfl (by kernel_rfl) (by kernel_rfl) (by kernel_rfl) (fun _ _ _ h => h) (Or.inl ⟨by rfl, ?_⟩) (by assumption) ?_
                  rotate_left 1
                  · intro w' hSw
                    (try dsimp only at hSw)
                    go_simp
                    (try with_reducible rfl)
                  (try simp only [Act.put, List.getElem_toArray, List.getElem_cons_zero, List.getElem_cons_succ, List.setIfInBounds_toArray, List.set_cons_zero, List.set_cons_succ])
                  refine wpAnyH_take (i := 10) (v := ?_) rfl (by kernel_rfl) (by kernel_rfl) (by kernel_rfl) (fun _ _ _ h => h) (Or.inl ⟨by rfl, ?_⟩) (by assumption) ?_
                  rotate_left 1
                  · intro w' hSw
                    (try dsimp only at hSw)
                    go_simp
                    (try with_reducible rfl)
                  (try simp only [Act.put, List.getElem_toArray, List.getElem_cons_zero, List.getElem_cons_succ, List.setIfInBounds_toArray, List.set_cons_zero, List.set_cons_succ])
                  refine wpAnyH_take (i := 11) (v := ?_) rfl (by kernel_rfl) (by kernel_rfl) (by kernel_rfl) (fun _ _ _ h => h) (Or.inl ⟨by rfl, ?_⟩) (by assumption) ?_
                  rotate_left 1
                  · intro w' hSw
                    (try dsimp only at hSw)
                    go_simp
                    (try with_reducible rfl)
                  (try simp only [Act.put, List.getElem_toArray, List.getElem_cons_zero, List.getElem_cons_succ, List.setIfInBounds_toArray, List.set_cons_zero, List.set_cons_succ])
                  refine wpAnyH_take (i := 12) (v := ?_) rfl (by kernel_rfl) (by kernel_rfl) (by kernel_rfl) (fun _ _ _ h => h) (Or.inl ⟨by rfl, ?_⟩) (by assumption) ?_
                  rotate_left 1
                  · intro w' hSw
                    (try dsimp only at hSw)
                    go_simp
                    (try with_reducible rfl)
                  (try simp only [Act.put, List.getElem_toArray, List.getElem_cons_zero, List.getElem_cons_succ, List.setIfInBounds_toArray, List.set_cons_zero, List.set_cons_succ])
                  refine wpAnyH_take (i := 13) (v := ?_) rfl (by kernel_rfl) (by kernel_rfl) (by kernel_rfl) (fun _ _ _ h => h) (Or.inl ⟨by rfl, ?_⟩) (by assumption) ?_
                  rotate_left 1
                  · intro w' hSw
                    (try dsimp only at hSw)
                    go_simp
                    (try with_reducible rfl)
                  (try simp only [Act.put, List.getElem_toArray, List.getElem_cons_zero, List.getElem_cons_succ, List.setIfInBounds_toArray, List.set_cons_zero, List.set_cons_succ])
                  refine wpAnyH_take (i := 14) (v := ?_) rfl (by kernel_rfl) (by kernel_rfl) (by kernel_rfl) (fun _ _ _ h => h) (Or.inl ⟨by rfl, ?_⟩) (by assumption) ?_
                  rotate_left 1
                  · intro w' hSw
                    (try dsimp only at hSw)
                    go_simp
                    (try with_reducible rfl)
                  (try simp only [Act.put, List.getElem_toArray, List.getElem_cons_zero, List.getElem_cons_succ, List.setIfInBounds_toArray, List.set_cons_zero, List.set_cons_succ])
                  refine wpAnyH_take (i := 15) (v := ?_) rfl (by kernel_rfl) (by kernel_rfl) (by kernel_rfl) (fun _ _ _ h => h) (Or.inl ⟨by rfl, ?_⟩) (by assumption) ?_
                  rotate_left 1
                  · intro w' hSw
                    (try dsimp only at hSw)
                    go_simp
                    (try with_reducible rfl)
                  (try simp only [Act.put, List.getElem_toArray, List.getElem_cons_zero, List.getElem_cons_succ, List.setIfInBounds_toArray, List.set_cons_zero, List.set_cons_succ])
                  refine wpAnyH_take (i := 16) (v := ?_) rfl (by kernel_rfl) (by kernel_rfl) (by kernel_rfl) (fun _ _ _ h => h) (Or.inl ⟨by rfl, ?_⟩) (by assumption) ?_
                  rotate_left 1
                  · intro w' hSw
                    (try dsimp only at hSw)
                    go_simp
                    (try with_reducible rfl)
                  (try simp only [Act.put, List.getElem_toArray, List.getElem_cons_zero, List.getElem_cons_succ, List.setIfInBounds_toArray, List.set_cons_zero, List.set_cons_succ])
                  refine wpAnyH_take (i := 17) (v := ?_) rfl (by kernel_rfl) (by kernel_rfl) (by kernel_rfl) (fun _ _ _ h => h) (Or.inl ⟨by rfl, ?_⟩) (by assumption) ?_
                  rotate_left 1
                  · intro w' hSw
                    (try dsimp only at hSw)
                    go_simp
                    (try with_reducible rfl)
                  (try simp only [Act.put, List.getElem_toArray, List.getElem_cons_zero, List.getElem_cons_succ, List.setIfInBounds_toArray, List.set_cons_zero, List.set_cons_succ])
                  refine wpAnyH_take (i := 19) (v := ?_) rfl (by kernel_rfl) (by kernel_rfl) (by kernel_rfl) (fun _ _ _ h => h) (Or.inl ⟨by rfl, ?_⟩) (by assumption) ?_
                  rotate_left 1
                  · intro w' hSw
                    (try dsimp only at hSw)
                    go_simp
                    (try with_reducible rfl)
                  (try simp only [Act.put, List.getElem_toArray, List.getElem_cons_zero, List.getElem_cons_succ, List.setIfInBounds_toArray, List.set_cons_zero, List.set_cons_succ])
                  refine wpAnyH_take (i := 20) (v := ?_) rfl (by kernel_rfl) (by kernel_rfl) (by kernel_rfl) (fun _ _ _ h => h) (Or.inl ⟨by rfl, ?_⟩) (by assumption) ?_
                  rotate_left 1
                  · intro w' hSw
                    (try dsimp only at hSw)
                    go_simp
                    (try with_reducible rfl)
                  (try simp only [Act.put, List.getElem_toArray, List.getElem_cons_zero, List.getElem_cons_succ, List.setIfInBounds_toArray, List.set_cons_zero, List.set_cons_succ])
                  refine wpAnyH_take (i := 21) (v := ?_) rfl (by kernel_rfl) (by kernel_rfl) (by kernel_rfl) (fun _ _ _ h => h) (Or.inl ⟨by rfl, ?_⟩) (by assumption) ?_
                  rotate_left 1
                  · intro w' hSw
                    (try dsimp only at hSw)
                    go_simp
                    (try with_reducible rfl)
                  (try simp only [Act.put, List.getElem_toArray, List.getElem_cons_zero, List.getElem_cons_succ, List.setIfInBounds_toArray, List.set_cons_zero, List.set_cons_succ])
                  refine wpAnyH_take (i := 22) (v := ?_) rfl (by kernel_rfl) (by kernel_rfl) (by kernel_rfl) (fun _ _ _ h => h) (Or.inl ⟨by rfl, ?_⟩) (by assumption) ?_
                  rotate_left 1
                  · intro w' hSw
                    (try dsimp only at hSw)
                    go_simp
                    (try with_reducible rfl)
                  (try simp only [Act.put, List.getElem_toArray, List.getElem_cons_zero, List.getElem_cons_succ, List.setIfInBounds_toArray, List.set_cons_zero, List.set_cons_succ])
                  refine wpAnyH_take (i := 23) (v := ?_) rfl (by kernel_rfl) (by kernel_rfl) (by kernel_rfl) (fun _ _ _ h => h) (Or.inl ⟨by rfl, ?_⟩) (by assumption) ?_
                  rotate_left 1
                  · intro w' hSw
                    (try dsimp only at hSw)
                    go_simp
                    (try with_reducible rfl)
                  (try simp only [Act.put, List.getElem_toArray, List.getElem_cons_zero, List.getElem_cons_succ, List.setIfInBounds_toArray, List.set_cons_zero, List.set_cons_succ])
                  refine wpAnyH_take (i := 24) (v := ?_) rfl (by kernel_rfl) (by kernel_rfl) (by kernel_rfl) (fun _ _ _ h => h) (Or.inl ⟨by rfl, ?_⟩) (by assumption) ?_
                  rotate_left 1
                  · intro w' hSw
                    (try dsimp only at hSw)
                    go_simp
                    (try with_reducible rfl)
                  (try simp only [Act.put, List.getElem_toArray, List.getElem_cons_zero, List.getElem_cons_succ, List.setIfInBounds_toArray, List.set_cons_zero, List.set_cons_succ])
                  refine wpAnyH_take (i := 25) (v := ?_) rfl (by kernel_rfl) (by kernel_rfl) (by kernel_rfl) (fun _ _ _ h => h) (Or.inl ⟨by rfl, ?_⟩) (by assumption) ?_
                  rotate_left 1
                  · intro w' hSw
                    (try dsimp only at hSw)
                    go_simp
                    (try with_reducible rfl)
                  (try simp only [Act.put, List.getElem_toArray, List.getElem_cons_zero, List.getElem_cons_succ, List.setIfInBounds_toArray, List.set_cons_zero, List.set_cons_succ])
                  refine wpAnyH_ready (rs := [18]) (by kernel_rfl) (by simp) ?_
                  refine AllReadyH.cons rfl (fun K hK => ?_) AllReadyH.nil
                  clear hHeld2
                  go_simp
                  go_at_call 19
                  refine (log_calls (HST.out.rep hk3 (Below.refl _ _).drew)).mono ?_
                  rintro e wa ⟨va, rfl, hra, hba⟩
                  have hBa : Below wr.heap.size wr wa := (Below.refl _ _).drew.trans hba
                  have HBA := Lib.hid hBa
                  have HRA := Lib.hid hra
                  refine hK.out _ _ (HSS.out _ hBa) (fun hHeld3 => ?_)
                  clear hK K hba hBa hra
                  (try simp only [Act.put, List.getElem_toArray, List.getElem_cons_zero, List.getElem_cons_succ, List.setIfInBounds_toArray, List.set_cons_zero, List.set_cons_succ])
                  refine wpAnyH_ready (rs := [26]) (by kernel_rfl) (by simp) ?_
                  refine AllReadyH.cons rfl (fun K hK => ?_) AllReadyH.nil
                  clear hHeld3
                  go_simp
                  go_at_call 19
                  refine (log_calls (HST.out.rep hp3 HBA.out)).mono ?_
                  rintro e wb ⟨vb, rfl, hrb, hbb⟩
                  have hBb : Below wr.heap.size wr wb := HBA.out.trans (hbb.mono HBA.out.size)
                  have HBB := Lib.hid hBb
                  have HRA2 := Lib.hid (own_below HRA.out hbb (Nat.le_refl _))
                  have HRB := Lib.hid hrb
                  refine hK.out _ _ (HSS.out _ hBb) (fun hHeld4 => ?_)
                  clear hK K hbb hBb hrb HRA
                  (try simp only [Act.put, List.getElem_toArray, List.getElem_cons_zero, List.getElem_cons_succ, List.setIfInBounds_toArray, List.set_cons_zero, List.set_cons_succ])
                  refine wpAnyH_ready (rs := [27]) (by kernel_rfl) (by simp) ?_
                  refine AllReadyH.cons rfl (fun K hK => ?_) AllReadyH.nil
                  clear hHeld4
                  go_simp
                  go_at_call 18
                  refine (same_calls _ _ _ _ (Sl.of_own HRA2.out) (Sl.of_own HRB.out)).mono ?_
                  rintro e wc2 ⟨rfl, hbc⟩
                  rw [sameB_eq (hlk.trans hlp.symm)]
                  have hBc : Below wr.heap.size wr wc2 := HBB.out.trans (hbc.mono HBB.out.size)
                  have HBC := Lib.hid hBc
                  refine hK.out _ _ (HSS.out _ hBc) (fun hHeld5 => ?_)
                  clear hK K hbc hBc
                  (try simp only [Act.put, List.getElem_toArray, List.getElem_cons_zero, List.getElem_cons_succ, List.setIfInBounds_toArray, List.set_cons_zero, List.set_cons_succ])
                  refine wpAnyH_take (i := 28) (v := ?_) rfl (by kernel_rfl) (by kernel_rfl) (by kernel_rfl) (fun _ _ _ h => h) (Or.inl ⟨by rfl, ?_⟩) (by assumption) ?_
                  rotate_left 1
                  · intro w' hSw
                    (try dsimp only at hSw)
                    go_simp
                    (try with_reducible rfl)
                  (try simp only [Act.put, List.getElem_toArray, List.getElem_cons_zero, List.getElem_cons_succ, List.setIfInBounds_toArray, List.set_cons_zero, List.set_cons_succ])
                  refine wpAnyH_take (i := 29) (v := ?_) rfl (by kernel_rfl) (by kernel_rfl) (by kernel_rfl) (fun _ _ _ h => h) (Or.inl ⟨by rfl, ?_⟩) (by assumption) ?_
                  rotate_left 1
                  · intro w' hSw
                    (try dsimp only at hSw)
                    go_simp
                    (try with_reducible rfl)
                  (try simp only [Act.put, List.getElem_toArray, List.getElem_cons_zero, List.getElem_cons_succ, List.setIfInBounds_toArray, List.set_cons_zero, List.set_cons_succ])
                  refine wpAnyH_done (by kernel_rfl) ?_ _
                  refine NoPanic.normal ?_
                  clear hHeld5 HSS
                  go_wp2_with fail
                  go_roundw
                  case rel => exact ⟨k + 1, by go_num, by omega, HST.out.below' HBC.out⟩
                  case measure => simp [intOf]; omega
                · have hgeI : (3 : Int) ≤ (k : Int) := by omega
                  have c0 := hst.cl.cells.1
                  have hr0 := hst.cl.rcell hp3
                  unfold ptrV at hr0
                  clear hst
                  go_wp2_with fail
                  refine (log_calls (HST.out.rep hp3 (Below.refl _ _))).mono ?_
                  rintro e wa ⟨va, rfl, hra, hba⟩
                  have hl4 := (HST.out.wf p hp3).len
                  rw [(HALL.out p hp3).1] at hra hl4
                  obtain ⟨aA, ac, rfl⟩ := own_form hra
                  have hls : (lg ++ [(⟨T, d⟩ : Rec)]).length = lg.length + 1 := by simp
                  obtain ⟨ga, rfl⟩ : ∃ ga, aA = some ⟨ga, 0, none⟩ := by
                    cases aA with
                    | none => have := (own_nil hra rfl).1; omega
                    | some ad =>
                      obtain ⟨g1, off', sp⟩ := ad
                      obtain ⟨rfl, rfl, _⟩ := own_cell hra rfl
                      exact ⟨g1, rfl⟩
                  have z1 := (own_cell hra rfl).2.2.2.2 _ _ (recsCells_at (lg ++ [(⟨T, d⟩ : Rec)]) lg.length (by omega)).2
                  have hde : ((lg ++ [(⟨T, d⟩ : Rec)])[lg.length]'(by omega)).data = d := by simp
                  rw [hde] at z1
                  have hnw : IntKind.i64.wrap (n2 - 1) = (lg.length : Int) := by
                    rw [HN2.out, show (lg.length : Int) + 1 - 1 = (lg.length : Int) from by omega]
                    exact IntWalk.i64_in _ (by omega)
                  have hix : (lg.length : Int) < (((lg ++ [(⟨T, d⟩ : Rec)]).length : Nat) : Int) := by omega
                  have HBA := Lib.hid hba
                  clear hde hra hba hls hl4 c0 hr0
                  generalize (lg ++ [(⟨T, d⟩ : Rec)]).length = N at hix ⊢
                  go_wp2_with fail
                  go_ret
                  exact ⟨by simp, (HST.out.below' HBA.out).below⟩
end Go.Proofs.Ytodmihpmbecncaa
