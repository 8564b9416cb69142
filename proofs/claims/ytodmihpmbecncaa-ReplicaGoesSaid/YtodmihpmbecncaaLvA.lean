/-
  Walk of the law ReplicaVotes: it answers true. Condition: the operations lie in memory.
-/
import Derived.Test.YtodmihpmbecncaaClJ
namespace Go.Proofs.Ytodmihpmbecncaa
open Go.RowKit

/-- Two votes of one replica in one term are for one candidate. -/
theorem M.votes_same {g : M.Gh} {a b : Msg} (ha : M.MsgOk g a) (hb : M.MsgOk g b) (k1 : a.kind = 1) (y1 : a.yes = true) (k2 : b.kind = 1) (y2 : b.yes = true) (hf : a.fr = b.fr) (ht : a.term = b.term) : a.to = b.to := by
  obtain ⟨c, h1, _, _, h2⟩ := ha.k1 k1 y1
  obtain ⟨d, h3, _, _, h4⟩ := hb.k1 k2 y2
  obtain rfl : c = d := by omega
  rw [← ht] at h4
  exact h2.symm.trans h4

/-- The memory of ReplicaVotes. -/
structure VtSt (w wr : World) (cb : Nat) (x : M.Cl) (L : Lay) (g : M.Gh) (sv : Value) (ps : List (Msg × Value)) : Prop where
  below : Below w.heap.size w wr
  cl : ClOk wr cb x L
  inv : M.PInv x g
  cls : ∀ k, ClS cb L k → w.heap.size ≤ k
  row : wr.ownsRow w.heap.size 37 9 sv ps.length (msgsCells ps)
  ap : ∀ ad, L.mA = some ad → sv.ownBlock ≠ some ad.block
  le : ps.length ≤ 500
  ok : ∀ p ∈ ps, p.1.kind = 1 ∧ p.1.yes = true ∧ M.MsgOk g p.1 ∧ p.2.oneCell' = true

section
variable {w wr w2 : World} {cb : Nat} {x : M.Cl} {L : Lay} {g : M.Gh} {sv : Value} {ps : List (Msg × Value)}
theorem ClS.kinds (h : ClOk wr cb x L) {k T : Nat} (hk : Kind wr k T) (hc : ClS cb L k) : T = 34 ∨ T = 46 ∨ T = 42 ∨ (T = 37 ∧ ∃ ad, L.mA = some ad ∧ ad.block = k) ∨ T = 76 ∨ T = 55 := by
  have hu : ∀ {T'}, Kind wr k T' → T = T' := fun h' => Decidable.byContradiction fun hn => hk.ne h' hn rfl
  rcases hc with rfl | rfl | rfl | ⟨ad, e, rfl⟩ | ⟨i, hi, rfl | ⟨ad, e, rfl⟩⟩
  · exact .inl (hu h.kind)
  · exact .inr (.inl (hu h.rkind))
  · exact .inr (.inr (.inl (hu h.skind)))
  · exact .inr (.inr (.inr (.inl ⟨hu (h.mkind e), ad, e, rfl⟩)))
  · exact .inr (.inr (.inr (.inr (.inl (hu (h.bkind hi))))))
  · exact .inr (.inr (.inr (.inr (.inr (hu (h.akind hi e))))))
theorem VtSt.below' (h : VtSt w wr cb x L g sv ps) (hb : Below wr.heap.size wr w2) : VtSt w w2 cb x L g sv ps :=
  ⟨h.below.trans (hb.mono h.below.size), h.cl.below hb, h.inv, h.cls, own_below h.row hb (Nat.le_refl _), h.ap, h.le, h.ok⟩
theorem VtSt.wf (h : VtSt w wr cb x L g sv ps) : ∀ i, i < 3 → M.WF (M.Rf x i) := fun i hi => (h.cl.rep i hi).wf
theorem VtSt.step {e : Ending} {o : M.Op} (h : VtSt w wr cb x L g sv ps) (hp : ClPost wr cb L (M.step x o) e w2) : e = .returned (.bool true) ∧ ∃ L' g', VtSt w w2 cb (M.step x o) L' g' sv ps := by
  obtain ⟨L', rfl, hok, hcl, hF⟩ := hp
  obtain ⟨g', E, P'⟩ := M.pinv_step h.inv h.wf o
  have hs := h.below.size
  have hrow : ∀ k, sv.ownBlock = some k → ¬ ClS cb L k := fun k hk hc => by
    rcases ClS.kinds h.cl (own_kind h.row hk) hc with q | q | q | ⟨_, ad, e1, e2⟩ | q | q
    · exact absurd q (by decide)
    · exact absurd q (by decide)
    · exact absurd q (by decide)
    · exact h.ap ad e1 (by rw [e2]; exact hk)
    · exact absurd q (by decide)
    · exact absurd q (by decide)
  refine ⟨rfl, L', g', h.below.trans ⟨hF.os, hF.tape, hF.output, hF.size, fun k hk => hF.block k (by omega) (fun hc => by have := h.cls k hc; omega)⟩, hok, P', fun k hk => ?_, own_fr h.row hF hrow, fun ad e1 e2 => ?_, h.le, fun p hp => ?_⟩
  · rcases Nat.lt_or_ge k wr.heap.size with q | q
    · exact h.cls k (hcl k q hk)
    · omega
  · have hlt := (own_lt h.row e2).2
    exact hrow _ e2 (hcl _ hlt (.inr (.inr (.inr (.inl ⟨ad, e1, rfl⟩)))))
  · obtain ⟨a, b, c, d⟩ := h.ok p hp
    exact ⟨a, b, E.msg h.inv.inv.gi c, d⟩
/-- A vote is noted. -/
theorem VtSt.push {m : Msg} {pv : Value} {A : Option Addr} {c : Nat} (h : VtSt w wr cb x L g sv ps) (hf : Fr (fun k => sv.ownBlock = some k) wr w2) (hown : w2.ownsRow w.heap.size 37 9 (.slice A (ps.length + 1) c) (ps.length + 1) (msgsCells ps ++ msgsCells [(m, pv)]))
    (hat : ∀ k, (Value.slice A (ps.length + 1) c).ownBlock = some k → sv.ownBlock = some k ∨ wr.heap.size ≤ k) (hl : ps.length < 500) (hm : M.MsgOk g m) (hk : m.kind = 1) (hy : m.yes = true) (hpv : pv.oneCell' = true) :
    VtSt w w2 cb x L g (.slice A (ps.length + 1) c) (ps ++ [(m, pv)]) := by
  have hs := h.below.size
  have hn : (ps ++ [(m, pv)]).length = ps.length + 1 := by simp
  refine ⟨h.below.trans ⟨hf.os, hf.tape, hf.output, hf.size, fun k hk => hf.block k (by omega) (fun e => by have := (own_lt h.row e).1; omega)⟩, h.cl.keep hf (fun k hk => ?_), h.inv, h.cls, ?_, fun ad e1 e2 => ?_, by rw [hn]; omega, fun p hp => ?_⟩
  · have hkk := own_kind h.row hk
    exact ⟨fun q => hkk.ne q (by decide) rfl, fun q => hkk.ne q (by decide) rfl, fun q => hkk.ne q (by decide) rfl, fun q => hkk.ne q (by decide) rfl, fun q => hkk.ne q (by decide) rfl, fun ad e1 e2 => h.ap ad e1 (by rw [e2]; exact hk)⟩
  · rw [hn, msgsCells_append]; exact hown
  · rcases hat _ e2 with q | q
    · exact h.ap ad e1 q
    · have := (h.cl.mkind e1).lt; omega
  · rcases List.mem_append.1 hp with hp | hp
    · exact h.ok p hp
    · obtain rfl : p = (m, pv) := by simpa using hp
      exact ⟨hk, hy, hm, hpv⟩
theorem VtSt.start {cb : Nat} (h : BeginPost w (.returned (ptrV cb)) wr) : ∃ L, cb = w.heap.size ∧ VtSt w wr cb M.begin_ L M.gh0 (.slice none 0 0) [] := by
  obtain ⟨L, h1, h2, h3, h4⟩ := h
  have e : cb = w.heap.size := by
    injection h1 with h1
    unfold ptrV at h1
    injection h1 with h1
    injection h1 with h1
    injection h1
  subst e
  exact ⟨L, rfl, h4, h2, M.pinv_begin, h3, World.ownsRow_nil _ _ _ _, fun ad _ e => (by cases e), by simp, fun p hp => (by cases hp)⟩
end

set_option maxRecDepth 100000 in
set_option maxHeartbeats 3200000 in
theorem votes_calls {ok : Nat → Prop} {w : World} (l : List M.Op) (v : Value) (hs : Sl w ok 4 v l.length (opsCells l)) (hd : ∀ o ∈ l, o.data.size ≤ 9223372036854775807) :
    Calls Try.prog 3 #[v] w fun e w' => e = .returned (.bool true) ∧ Below w.heap.size w w' := by
  obtain ⟨lA, lc, rfl⟩ := Sl.form hs
  have hlen := hs.2.1
  have HD := Lib.hid hd
  have HS := Lib.hid hs
  clear hs hd
  go_enter Try.func3, Try.ntmps3
  go_wp2_with fail
  refine (small_calls w).mono ?_
  rintro e w1 ⟨rfl, hb1⟩
  have HB1 := Lib.hid hb1
  clear hb1
  go_wp2_with fail
  refine (begin_calls w1).mono ?_
  rintro e w2 hp
  obtain ⟨L0, rfl, hok, hcl, hb2⟩ := hp
  have hv : VtSt w w2 w1.heap.size M.begin_ L0 M.gh0 (.slice none 0 0) [] := by
    have h1 := HB1.out.size
    exact ⟨HB1.out.trans (hb2.mono h1), hok, M.pinv_begin, fun k hk => by have := hcl k hk; omega, World.ownsRow_nil _ _ _ _, fun ad _ e => (by cases e), by simp, fun p hp => (by cases hp)⟩
  have HV := Lib.hid hv
  clear hok hcl hb2 hv HB1
  unfold ptrV
  generalize w1.heap.size = cb at *
  go_wp2_with fail
  refine (few_calls l (.slice lA l.length lc) 150 (HS.out.below HV.out.below (Nat.le_refl _)) HD.out).mono ?_
  rintro e w' ⟨rfl, rfl⟩
  cases hfew : fewB l 150
  · go_wp2_with fail
    go_ret
    exact ⟨rfl, HV.out.below⟩
  · have hl150 : l.length ≤ 150 := by
      unfold fewB at hfew
      rw [Bool.and_eq_true] at hfew
      simpa using hfew.2
    clear hfew
    go_wp2_with fail
    go_loopw [5, 6] (fun sv iv wr => ∃ (i : Nat) (x : M.Cl) (L : Lay) (g : M.Gh) (ps : List (Msg × Value)), iv = .int .i64 i ∧ i ≤ l.length ∧ VtSt w wr cb x L g sv ps) (fun _ iv _ => l.length - (intOf iv).toNat)
    case atStart => exact ⟨0, _, _, _, _, rfl, Nat.zero_le _, HV.out⟩
    case round =>
      clear HV
      obtain ⟨i, x, L, g, ps, rfl, hi, hst⟩ := hrel
      have HST := Lib.hid hst
      clear hst
      by_cases hlt : i < l.length
      · have hltI : (i : Int) < (l.length : Int) := by omega
        have hS2 := HS.out.below HST.out.below (Nat.le_refl _)
        obtain ⟨_, _, A', c', hA, hcap, hc63, h6⟩ := hS2
        cases hA
        rcases h6 with h6 | ⟨bl, off, rfl, _, hbl, hc⟩
        · omega
        obtain ⟨z0, z1, z2, z3⟩ := opsCells_at l i hlt
        have y0 := hc _ _ z0
        have y1 := hc _ _ z1
        have y2 := hc _ _ z2
        have y3 := hc _ _ z3
        rw [← Nat.add_assoc] at y1 y2 y3
        have hdd := HD.out l[i] (List.getElem_mem hlt)
        generalize hop : l[i] = o at y0 y1 y2 y3 hdd
        clear z0 z1 z2 z3 hc hop
        go_wp2_with fail
        have hcc := step_calls HST.out.cl HST.out.inv o hdd
        unfold ptrV at hcc
        refine hcc.mono ?_
        rintro e w3 hp
        obtain ⟨rfl, L', g', hst'⟩ := HST.out.step hp
        generalize M.step x o = x' at hst'
        have HST' := Lib.hid hst'
        clear hp hst' hcc y0 y1 y2 y3 HST
        go_wp2_with fail
        go_loopw [5, 7] (fun sv kv wr => ∃ (k : Nat) (ps : List (Msg × Value)), kv = .int .i64 k ∧ k ≤ x'.sent.length ∧ VtSt w wr cb x' L' g' sv ps) (fun _ kv _ => x'.sent.length - (intOf kv).toNat)
        case atStart => exact ⟨0, _, rfl, Nat.zero_le _, HST'.out⟩
        case round =>
          clear HST' hltI hbl
          obtain ⟨k, ps, rfl, hk, hst⟩ := hrel
          obtain ⟨sA, sc, rfl⟩ := own_form hst.row
          have c2 := hst.cl.cells.2.2
          have hx300 := hst.cl.mN
          have hp500 := hst.le
          have HST := Lib.hid hst
          by_cases hkl : k < x'.sent.length
          · have hklI : (k : Int) < (x'.sent.length : Int) := by omega
            obtain ⟨px, e1, e2, e3⟩ := hst.cl.sent
            have hpl : px.length = x'.sent.length := by rw [e1, List.length_map]
            rw [hpl] at e2
            have hkp : k < px.length := by omega
            obtain ⟨gm, hgm⟩ : ∃ gm, L'.mA = some ⟨gm, 0, none⟩ := by
              cases hA : L'.mA with
              | none => rw [hA] at e2; have := own_nil e2 rfl; omega
              | some ad =>
                rw [hA] at e2
                obtain ⟨g1, off', sp⟩ := ad
                obtain ⟨rfl, rfl, _⟩ := own_cell e2 rfl
                exact ⟨g1, rfl⟩
            rw [hgm] at e2 c2
            have hat := fun j (hj : j < 9) => (own_cell e2 rfl).2.2.2.2 (k * 9 + j) _ ((msgsCells_at px k hkp j hj).trans (List.getElem?_eq_getElem (by simpa [msgCells] using hj)))
            have hp3 := e3 px[k] (List.getElem_mem hkp)
            have hmem : px[k].1 ∈ x'.sent := by rw [e1]; exact List.mem_map_of_mem (List.getElem_mem hkp)
            have hmok := hst.inv.msg _ hmem
            generalize px[k] = p at hat hp3 hmem hmok
            obtain ⟨m, pv⟩ := p
            obtain ⟨pA, pc, hpv⟩ := own_form hp3.1
            dsimp only at hpv hmok
            subst hpv
            have y0 := hat 0 (by decide)
            have y1 := hat 1 (by decide)
            have y2 := hat 2 (by decide)
            have y3 := hat 3 (by decide)
            have y4 := hat 4 (by decide)
            have y5 := hat 5 (by decide)
            have y6 := hat 6 (by decide)
            have y7 := hat 7 (by decide)
            have y8 := hat 8 (by decide)
            simp only [msgCells, List.getElem_cons_zero, List.getElem_cons_succ, Nat.add_zero] at y0 y1 y2 y3 y4 y5 y6 y7 y8
            have HMOK := Lib.hid hmok
            clear hst hat hp3 hmem hmok e1 e2 e3 hpl hkp hgm
            go_upto_region 15 with fail
            refine wp_world (fun V => VtSt w V cb x' L' g' (.slice sA ps.length sc) ps ∧ V.heap[wr.heap.size]? = some (.cells (msgCells m (.slice pA m.recs.length pc)).toArray 37) ∧ wr.heap.size < V.heap.size ∧ (∀ k, (Value.slice sA ps.length sc).ownBlock = some k → k < wr.heap.size)) ⟨HST.out.below' ((Below.refl _ _).alloc (Nat.le_refl _) _), heap_alloc_new wr _, by simp, fun k hk => (own_lt HST.out.row hk).2⟩ ?_
            clear c2 y0 y1 y2 y3 y4 y5 y6 y7 y8 HST
            rintro V ⟨hV, hB, hltB, hsvB⟩
            have x0 := cell_blk hB 0
            have x1 := cell_blk hB 1
            have x2 := cell_blk hB 2
            have x3 := cell_blk hB 3
            have x4 := cell_blk hB 4
            have x5 := cell_blk hB 5
            have x6 := cell_blk hB 6
            have x7 := cell_blk hB 7
            have x8 := cell_blk hB 8
            simp only [msgCells, List.getElem?_cons_zero, List.getElem?_cons_succ] at x0 x1 x2 x3 x4 x5 x6 x7 x8
            have HV := Lib.hid hV
            have HB := Lib.hid hB
            have HSVB := Lib.hid hsvB
            clear hV hB hsvB
            by_cases hkd : m.kind = 1
            · cases hys : m.yes
              · have q1 : (m.kind != 1) = false := by simp [hkd]
                rw [hys] at x7
                clear hkd
                go_wp2_with fail
                go_roundw
                case rel => exact ⟨k + 1, ps, by go_num, by omega, HV.out⟩
                case measure => simp [intOf]; omega
              · have q1 : (m.kind != 1) = false := by simp [hkd]
                have HKD := Lib.hid hkd
                have HYS := Lib.hid hys
                rw [hys] at x7
                clear hkd hys
                go_wp2_with fail
                go_loopw [9] (fun nv wn => ∃ n : Nat, nv = .int .i64 n ∧ n ≤ ps.length ∧ Below V.heap.size V wn) (fun nv _ => ps.length - (intOf nv).toNat)
                case atStart => exact ⟨0, rfl, Nat.zero_le _, Below.refl _ _⟩
                case round =>
                  obtain ⟨n, rfl, hn, hbn⟩ := hrel
                  have HBN := Lib.hid hbn
                  have hVs := hbn.size
                  have hB2 := (hbn.block _ hltB).trans HB.out
                  have x0 := cell_blk hB2 0
                  have x1 := cell_blk hB2 1
                  have x2 := cell_blk hB2 2
                  have x3 := cell_blk hB2 3
                  have x4 := cell_blk hB2 4
                  have x5 := cell_blk hB2 5
                  have x6 := cell_blk hB2 6
                  have x7 := cell_blk hB2 7
                  have x8 := cell_blk hB2 8
                  simp only [msgCells, List.getElem?_cons_zero, List.getElem?_cons_succ] at x0 x1 x2 x3 x4 x5 x6 x7 x8
                  have HB2 := Lib.hid hB2
                  clear hbn hB2
                  by_cases hnl : n < ps.length
                  · have hnlI : (n : Int) < (ps.length : Int) := by omega
                    have hrow := own_below HV.out.row HBN.out (Nat.le_refl _)
                    obtain ⟨gs, rfl⟩ : ∃ gs, sA = some ⟨gs, 0, none⟩ := by
                      cases sA with
                      | none => have := own_nil hrow rfl; omega
                      | some ad =>
                        obtain ⟨g1, off', sp⟩ := ad
                        obtain ⟨rfl, rfl, _⟩ := own_cell hrow rfl
                        exact ⟨g1, rfl⟩
                    have hat := fun j (hj : j < 9) => (own_cell hrow rfl).2.2.2.2 (n * 9 + j) _ ((msgsCells_at ps n hnl j hj).trans (List.getElem?_eq_getElem (by simpa [msgCells] using hj)))
                    have hpo := HV.out.ok ps[n] (List.getElem_mem hnl)
                    generalize ps[n] = p at hat hpo
                    obtain ⟨q, qv⟩ := p
                    have z1 := hat 1 (by decide)
                    have z2 := hat 2 (by decide)
                    have z3 := hat 3 (by decide)
                    simp only [msgCells, List.getElem_cons_zero, List.getElem_cons_succ] at z1 z2 z3
                    dsimp only at hpo
                    have hto : q.fr = m.fr → q.term = m.term → q.to = m.to := fun a b => M.votes_same hpo.2.2.1 HMOK.out hpo.1 hpo.2.1 HKD.out HYS.out a b
                    clear hat hrow hpo x0 x4 x5 x6 x7 x8
                    by_cases r1 : q.fr = m.fr
                    · by_cases r2 : q.term = m.term
                      · have r3 := hto r1 r2
                        have d1 : (q.fr == m.fr) = true := by simp [r1]
                        have d2 : (q.term == m.term) = true := by simp [r2]
                        have d3 : (q.to != m.to) = false := by simp [r3]
                        clear hto r1 r2 r3
                        go_upto_region 19 with fail
                        go_quiet (fail)
                        go_wp2_with fail
                        go_roundw
                        case rel => exact ⟨n + 1, by go_num, by omega, HBN.out.trans ((below_drewN (Below.refl _ _) _).mono hVs)⟩
                        case measure => simp [intOf]; omega
                      · have d1 : (q.fr == m.fr) = true := by simp [r1]
                        have d2 : (q.term == m.term) = false := by simp [r2]
                        clear hto r1 r2
                        go_upto_region 19 with fail
                        go_quiet (fail)
                        go_wp2_with fail
                        go_roundw
                        case rel => exact ⟨n + 1, by go_num, by omega, HBN.out.trans ((below_drewN (Below.refl _ _) _).mono hVs)⟩
                        case measure => simp [intOf]; omega
                    · have d1 : (q.fr == m.fr) = false := by simp [r1]
                      clear hto r1
                      go_upto_region 19 with fail
                      go_quiet (fail)
                      go_wp2_with fail
                      go_roundw
                      case rel => exact ⟨n + 1, by go_num, by omega, HBN.out.trans ((below_drewN (Below.refl _ _) _).mono hVs)⟩
                      case measure => simp [intOf]; omega
                  · have hgeI : (ps.length : Int) ≤ (n : Int) := by omega
                    by_cases h500 : ps.length < 500
                    · have h500I : (ps.length : Int) < 500 := by omega
                      have hrow := own_below HV.out.row (HBN.out.alloc hVs (.cells (msgCells m (.slice pA m.recs.length pc)).toArray 37)) (Nat.le_refl _)
                      have HROW := Lib.hid hrow
                      have HSL := Lib.hid (sl_one_msg wr m (.slice pA m.recs.length pc))
                      have hws := HV.out.below.size
                      clear hrow
                      go_wp2_with (at_builtin; refine wpList_append_sl _ rfl _ _ 27 rfl w.heap.size 37 _ 9 88 Try.underlying27 info37 rfl (by decide) _ ps.length (msgsCells ps) rfl HROW.out (wr.heap.size ≤ ·) _ 1 (msgsCells [(m, .slice pA m.recs.length pc)]) rfl HSL.out ?_ ?_ ?_ ?_ ?_; rotate_left 4; intro v' w5 hown hg hat; obtain ⟨A5, n5, rfl⟩ := own_form hown)
                      · have hst5 := HV.out.below' HBN.out
                        have hf5 : Fr (fun k => (Value.slice sA ps.length sc).ownBlock = some k) wr w5 := ((Fr.refl _ wr).alloc _).grown hg (fun q hq => .inl hq)
                        have hat' : (Value.slice A5 (ps.length + 1) n5).ownBlock = (Value.slice sA ps.length sc).ownBlock ∨ (Value.slice A5 (ps.length + 1) n5).ownBlock = some (wr.alloc (.cells (msgCells m (.slice pA m.recs.length pc)).toArray 37)).heap.size := hat
                        have hfin := hst5.push hf5 hown (fun k hk => by
                          rcases hat' with q | q
                          · exact .inl (by rw [← q]; exact hk)
                          · right
                            rw [q] at hk
                            have h1 : (wr.alloc (.cells (msgCells m (.slice pA m.recs.length pc)).toArray 37)).heap.size = k := Option.some.inj hk
                            have h2 : (wr.alloc (.cells (msgCells m (.slice pA m.recs.length pc)).toArray 37)).heap.size = wr.heap.size + 1 := by simp
                            omega) h500 HMOK.out HKD.out HYS.out rfl
                        have HFIN := Lib.hid hfin
                        clear hfin hst5 hf5 hown hg hat hat'
                        go_roundw
                        case rel => exact ⟨k + 1, ps ++ [(m, .slice pA m.recs.length pc)], by go_num, by omega, HFIN.out⟩
                        case measure => simp [intOf]; omega
                      · exact msgsCells_one _ (fun p hp => by
                          simp only [List.mem_singleton] at hp
                          subst hp
                          rfl)
                      · simp only [maxLen]; omega
                      · omega
                      · show w.heap.size ≤ (wr.alloc _).heap.size
                        simp; omega
                    · have h500I : (500 : Int) ≤ (ps.length : Int) := by omega
                      go_wp2_with fail
                      go_roundw
                      case rel => exact ⟨k + 1, ps, by go_num, by omega, HV.out.below' HBN.out⟩
                      case measure => simp [intOf]; omega
            · have q1 : (m.kind != 1) = true := by simp [hkd]
              clear hkd
              go_wp2_with fail
              go_roundw
              case rel => exact ⟨k + 1, ps, by go_num, by omega, HV.out⟩
              case measure => simp [intOf]; omega
          · have hgeI : (x'.sent.length : Int) ≤ (k : Int) := by omega
            clear hst
            go_wp2_with fail
            go_roundw
            case rel => exact ⟨i + 1, x', L', g', ps, by go_num, by omega, HST.out⟩
            case measure => simp [intOf]; omega
      · have hgeI : (l.length : Int) ≤ (i : Int) := by omega
        go_wp2_with fail
        go_ret
        exact ⟨rfl, HST.out.below⟩
end Go.Proofs.Ytodmihpmbecncaa
