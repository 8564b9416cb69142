/-
  Walk of the cluster's done: what a call hands back is stored and sent. Condition: what is stored then is right.
-/
import Derived.Test.YtodmihpmbecncaaClC
import Derived.Test.YtodmihpmbecncaaRl
namespace Go.Proofs.Ytodmihpmbecncaa
open Go.RowKit

section
variable {w W : World} {cb : Nat} {x x1 : M.Cl} {L L1 : Lay} {o : Out} {orv osv : Value}

/-- The memory within done. -/
structure DnSt (w W : World) (cb : Nat) (x1 : M.Cl) (L L1 : Lay) (o : Out) (orv osv : Value) : Prop where
  ok : ClOk W cb x1 L1
  cls : ∀ k, k < w.heap.size → ClS cb L1 k → ClS cb L k
  fr : Fr (ClS cb L) w W
  box : W.heap[w.heap.size]? = some (.cells [.bool o.save, .int .i64 o.hard.term, .int .i64 o.hard.vote, .int .i64 o.fr, orv, osv].toArray 45)
  recs : W.ownsRow 0 55 2 orv o.recs.length (recsCells o.recs)
  send : MsgsX W (rowsX L1) osv o.send
  apart : ∀ ad, L1.mA = some ad → osv.ownBlock ≠ some ad.block

theorem DnSt.cells (h : DnSt w W cb x1 L L1 o orv osv) : W.cell? ⟨w.heap.size, 0, none⟩ = some (.bool o.save) ∧ W.cell? ⟨w.heap.size, 1, none⟩ = some (.int .i64 o.hard.term) ∧ W.cell? ⟨w.heap.size, 2, none⟩ = some (.int .i64 o.hard.vote) ∧
    W.cell? ⟨w.heap.size, 3, none⟩ = some (.int .i64 o.fr) ∧ W.cell? ⟨w.heap.size, 4, none⟩ = some orv ∧ W.cell? ⟨w.heap.size, 5, none⟩ = some osv :=
  ⟨cell_blk h.box 0, cell_blk h.box 1, cell_blk h.box 2, cell_blk h.box 3, cell_blk h.box 4, cell_blk h.box 5⟩
theorem DnSt.bkind (h : DnSt w W cb x1 L L1 o orv osv) : Kind W w.heap.size 45 := ⟨_, _, h.box⟩
theorem DnSt.below (h : DnSt w W cb x1 L L1 o orv osv) {W' : World} (hb : Below W.heap.size W W') : DnSt w W' cb x1 L L1 o orv osv :=
  ⟨h.ok.below hb, h.cls, h.fr.trans (Fr.of_below hb), (hb.block _ h.bkind.lt).trans h.box, own_below h.recs hb (Nat.le_refl _), h.send.fr (S := fun _ => False) (Fr.of_below hb) (fun _ _ h => h) (fun _ _ _ _ h => h) (fun _ _ h => h), h.apart⟩
/-- A step that writes the cluster's row of what is stored alone. -/
theorem DnSt.putS (h : DnSt w W cb x1 L L1 o orv osv) {W' : World} {x2 : M.Cl} {L2 : Lay} (hA : L2.As = L1.As) (hm : L2.mA = L1.mA) (hS : ∀ k, ClS cb L2 k → ClS cb L1 k) (hok : ClOk W' cb x2 L2) (hf : Fr (fun k => k = L1.sA) W W') : DnSt w W' cb x2 L L2 o orv osv := by
  have hne : ∀ {k T}, Kind W k T → T ≠ 42 → ¬ k = L1.sA := fun hk hT e => hk.ne h.ok.skind hT e
  have hXX : rowsX L2 = rowsX L1 := by unfold rowsX; rw [hA]
  refine ⟨hok, fun k hk hc => h.cls k hk (hS k hc), h.fr.trans2 hf (fun k e => ?_), (hf.block _ h.bkind.lt (hne h.bkind (by decide))).trans h.box, own_fr h.recs hf (fun k hk => hne (own_kind h.recs hk) (by decide)), ?_, by rw [hm]; exact h.apart⟩
  · subst e
    rcases Nat.lt_or_ge L1.sA w.heap.size with hlt | hge
    · exact .inl (h.cls _ hlt (.inr (.inr (.inl rfl))))
    · exact .inr hge
  · rw [hXX]
    refine h.send.fr hf (fun k hk => ?_) (fun k hk _ _ => hne hk (by decide)) (fun _ _ h => h)
    obtain ⟨ps, _, p2, _⟩ := h.send
    exact hne (own_kind p2 hk) (by decide)

theorem ClPost.of {w W : World} {x' : M.Cl} {e : Ending} {w' : World} (h : ClPost W cb L1 x' e w') (hs : ∀ k, k < w.heap.size → ClS cb L1 k → ClS cb L k) (hf : Fr (ClS cb L) w W) : ClPost w cb L x' e w' := by
  obtain ⟨L', h1, h2, h3, h4⟩ := h
  refine ⟨L', h1, h2, fun k hk hc => hs k hk (h3 k (Nat.lt_of_lt_of_le hk hf.size) hc), hf.trans2 h4 (fun k hc => ?_)⟩
  rcases Nat.lt_or_ge k w.heap.size with hlt | hge
  · exact .inl (hs k hlt hc)
  · exact .inr hge

theorem one_owned {w : World} {base e sz n : Nat} {m : Msg} {v : Value} {xs : List Value} (h : w.ownsRow base e sz v n xs) : ∀ p ∈ [(m, v)], p.2.oneCell' = true := by
  intro p hp
  obtain rfl : p = (m, v) := by simpa using hp
  obtain ⟨a, b, rfl⟩ := own_form h
  rfl
/-- The row of the messages in flight. -/
def MS (L : Lay) (k : Nat) : Prop := ∃ ad, L.mA = some ad ∧ ad.block = k
theorem ms_own (L : Lay) (n : Nat) {k : Nat} (h : (Value.slice L.mA n L.mc).ownBlock = some k) : MS L k := by
  unfold MS
  cases hm : L.mA with
  | none => rw [hm] at h; cases h
  | some ad => rw [hm] at h; exact ⟨ad, rfl, Option.some.inj h⟩

theorem msgsCells_at : ∀ (ps : List (Msg × Value)) (k : Nat) (hk : k < ps.length) (j : Nat), j < 9 → (msgsCells ps)[k * 9 + j]? = (msgCells ps[k].1 ps[k].2)[j]?
  | [], k, hk, _, _ => by simp at hk
  | p :: ps, 0, _, j, hj => by
    simp only [msgsCells, List.flatMap_cons, List.getElem_cons_zero, Nat.zero_mul, Nat.zero_add]
    rw [List.getElem?_append_left (by simpa [msgCells] using hj)]
  | p :: ps, k + 1, hk, j, hj => by
    have := msgsCells_at ps k (by simpa using hk) j hj
    simp only [msgsCells, List.flatMap_cons, List.getElem_cons_succ] at *
    rw [List.getElem?_append_right (by simp [msgCells]; omega)]
    rw [← this]
    congr 1
    simp [msgCells]; omega

/-- One more message is in flight. -/
theorem ClOk.push {w1 : World} (h : ClOk w cb x L) {ps : List (Msg × Value)} {m : Msg} {pv : Value} {A' : Option Addr} {c' : Nat} (hf : Fr (MS L) w w1) (hps : x.sent = ps.map Prod.fst) (hpr : ∀ p ∈ ps, w.ownsRow 0 55 2 p.2 p.1.recs.length (recsCells p.1.recs) ∧ ∀ k, p.2.ownBlock = some k → ¬ rowsX L k)
    (hown : w1.ownsRow 0 37 9 (.slice A' (ps.length + 1) c') (ps.length + 1) (msgsCells ps ++ msgsCells [(m, pv)])) (hp : w.ownsRow 0 55 2 pv m.recs.length (recsCells m.recs)) (hpx : ∀ k, pv.ownBlock = some k → ¬ rowsX L k) (hl : x.sent.length < 300) :
    ClOk (w1.setCell ⟨cb, 2, none⟩ (.slice A' (ps.length + 1) c')) cb { x with sent := x.sent ++ [m] } { L with mA := A', mc := c' } := by
  have hn : (x.sent ++ [m]).length = ps.length + 1 := by rw [hps]; simp
  have hMS : ∀ {k T}, Kind w k T → T ≠ 37 → ¬ MS L k := fun hk hT ⟨ad, e1, e2⟩ => hk.ne (h.mkind e1) hT e2.symm
  have hF : Fr (fun k => MS L k ∨ k = cb) w (w1.setCell ⟨cb, 2, none⟩ (.slice A' (ps.length + 1) c')) := (hf.mono (fun i hi => .inl (.inl hi))).setCell (p := ⟨cb, 2, none⟩) (.inl (.inr rfl)) _
  have hne : ∀ {k T}, Kind w k T → T ≠ 37 → T ≠ 34 → ¬ (MS L k ∨ k = cb) := fun hk h1 h2 e => e.elim (hMS hk h1) (fun e => hk.ne h.kind h2 e)
  have hblk1 : w1.heap[cb]? = w.heap[cb]? := hf.block cb h.kind.lt (hMS h.kind (by decide))
  refine ⟨?_, h.rN, h.sN, by rw [hn]; rw [hps] at hl; simp at hl; omega, own_fr h.rrow hF (fun k hk => hne (own_kind h.rrow hk) (by decide) (by decide)), own_fr h.srow hF (fun k hk => hne (own_kind h.srow hk) (by decide) (by decide)), fun j hj => (h.rep j hj).fr hF (fun k hk => ?_), fun j hj => ⟨own_fr (h.slog j hj).1 hF (fun k hk => hne (own_kind (h.slog j hj).1 hk) (by decide) (by decide)), (h.slog j hj).2⟩, ?_, h.sepB, h.sepA⟩
  · have := set_blk (hblk1.trans h.blk) 2 (.slice A' (ps.length + 1) c')
    simp only [hn]
    exact this
  · rcases hk with rfl | ⟨ad, e1, rfl⟩
    · exact hne (h.bkind hj) (by decide) (by decide)
    · exact hne (h.akind hj e1) (by decide) (by decide)
  · refine ⟨ps ++ [(m, pv)], by rw [hps]; simp, ?_, fun p hp' => ?_⟩
    · simp only [hn, List.length_append, List.length_cons, List.length_nil]
      have e : msgsCells (ps ++ [(m, pv)]) = msgsCells ps ++ msgsCells [(m, pv)] := msgsCells_append _ _
      rw [e]
      have hk1 : Kind w1 cb 34 := ⟨_, _, hblk1.trans h.blk⟩
      exact own_fr hown (fr_setCell w1 ⟨cb, 2, none⟩ _) (fun k hk e => (own_kind hown hk).ne hk1 (by decide) e)
    · rcases List.mem_append.1 hp' with hp' | hp'
      · exact ⟨own_fr (hpr p hp').1 hF (fun k hk => hne (own_kind (hpr p hp').1 hk) (by decide) (by decide)), (hpr p hp').2⟩
      · obtain rfl : p = (m, pv) := by simpa using hp'
        exact ⟨own_fr hp hF (fun k hk => hne (own_kind hp hk) (by decide) (by decide)), hpx⟩
theorem DnSt.push {w1 : World} (h : DnSt w W cb x1 L L1 o orv osv) {x2 : M.Cl} {A' : Option Addr} {c' : Nat} {v : Value} (hA : A' = L1.mA ∨ ∀ ad, A' = some ad → W.heap.size ≤ ad.block) (hf : Fr (MS L1) W w1)
    (hok : ClOk (w1.setCell ⟨cb, 2, none⟩ v) cb x2 { L1 with mA := A', mc := c' }) : DnSt w (w1.setCell ⟨cb, 2, none⟩ v) cb x2 L { L1 with mA := A', mc := c' } o orv osv := by
  have hMS : ∀ {k T}, Kind W k T → T ≠ 37 → ¬ MS L1 k := fun hk hT ⟨ad, e1, e2⟩ => hk.ne (h.ok.mkind e1) hT e2.symm
  have hF : Fr (fun k => MS L1 k ∨ k = cb) W (w1.setCell ⟨cb, 2, none⟩ v) := (hf.mono (fun i hi => .inl (.inl hi))).setCell (p := ⟨cb, 2, none⟩) (.inl (.inr rfl)) _
  have hne : ∀ {k T}, Kind W k T → T ≠ 37 → T ≠ 34 → ¬ (MS L1 k ∨ k = cb) := fun hk h1 h2 e => e.elim (hMS hk h1) (fun e => hk.ne h.ok.kind h2 e)
  have hbk := h.bkind
  refine ⟨hok, fun k hk hc => h.cls k hk ?_, h.fr.trans2 hF (fun k e => ?_), (hF.block _ hbk.lt (hne hbk (by decide) (by decide))).trans h.box, own_fr h.recs hF (fun k hk => hne (own_kind h.recs hk) (by decide) (by decide)), ?_, ?_⟩
  · rcases hc with hc | hc | hc | ⟨ad, e1, e2⟩ | hc
    · exact .inl hc
    · exact .inr (.inl hc)
    · exact .inr (.inr (.inl hc))
    · change A' = some ad at e1
      rcases hA with hA | hA
      · exact .inr (.inr (.inr (.inl ⟨ad, by rw [← hA]; exact e1, e2⟩)))
      · have := hA ad e1
        have := h.fr.size
        omega
    · exact .inr (.inr (.inr (.inr hc)))
  · rcases Nat.lt_or_ge k w.heap.size with hlt | hge
    · refine .inl (h.cls k hlt ?_)
      rcases e with ⟨ad, e1, e2⟩ | e
      · exact .inr (.inr (.inr (.inl ⟨ad, e1, e2⟩)))
      · exact .inl e
    · exact .inr hge
  · refine h.send.fr hF (fun k hk e => ?_) (fun k hk _ _ => hne hk (by decide) (by decide)) (fun _ _ h => h)
    obtain ⟨ps, _, p2, _⟩ := h.send
    rcases e with ⟨ad, e1, e2⟩ | e
    · exact h.apart ad e1 (by rw [e2]; exact hk)
    · exact (own_kind p2 hk).ne h.ok.kind (by decide) e
  · intro ad e1 e2
    change A' = some ad at e1
    rcases hA with hA | hA
    · exact h.apart ad (by rw [← hA]; exact e1) e2
    · obtain ⟨ps, _, p2, _⟩ := h.send
      have h1 := hA ad e1
      have h2 := (own_lt p2 e2).2
      omega

theorem set_getD {α : Type} (l : List α) (i : Nat) (z : α) : l.set i (l.getD i z) = l := by
  apply List.ext_getElem?
  intro j
  rw [List.getElem?_set]
  split
  · rename_i e
    subst e
    split
    · rename_i h
      rw [List.getD_eq_getElem?_getD, List.getElem?_eq_getElem h]; rfl
    · rename_i h
      rw [List.getElem?_eq_none (by omega)]
  · rfl

set_option linter.unusedSimpArgs false in
set_option maxRecDepth 10000 in
set_option maxHeartbeats 1600000 in
theorem done_calls (h : ClOk w cb x L) {i : Nat} (hi : i < 3) (o : Out) (orv osv : Value) (hrec : w.ownsRow 0 55 2 orv o.recs.length (recsCells o.recs)) (hsend : MsgsX w (rowsX L) osv o.send) (hap : ∀ ad, L.mA = some ad → osv.ownBlock ≠ some ad.block)
    (hl : (x.s.getD i M.zSt).log.length ≤ 4000) (hrl : 0 < o.fr → o.fr ≤ 1000000 ∧ o.recs.length ≤ 4000)
    (hn1 : (x.s.getD i M.zSt).stop = 1 → M.new i (x.s.getD i M.zSt).hard (x.s.getD i M.zSt).log = some (M.made i (x.s.getD i M.zSt)))
    (hn2 : (x.s.getD i M.zSt).stop = 2 → M.new i (M.kept (x.s.getD i M.zSt) o).hard (M.kept (x.s.getD i M.zSt) o).log = some (M.made i (M.kept (x.s.getD i M.zSt) o))) :
    Calls Try.prog 12 #[ptrV cb, .int .i64 i, outVal o orv osv] w (ClPost w cb L (M.done x i o)) := by
  have HH := Lib.hid h
  have hiI : (i : Int) < 3 := by omega
  unfold ptrV outVal
  obtain ⟨rA, rc, rfl⟩ := own_form hrec
  obtain ⟨sA, sc, rfl⟩ : ∃ A c, osv = .slice A o.send.length c := by
    obtain ⟨ps, p1, p2, _⟩ := hsend
    obtain ⟨A, c, rfl⟩ := own_form p2
    exact ⟨A, c, by rw [p1, List.length_map]⟩
  have HREC := Lib.hid hrec
  have HSEND := Lib.hid hsend
  have HAP := Lib.hid hap
  have HN1 := Lib.hid hn1
  have HN2 := Lib.hid hn2
  have HRL := Lib.hid hrl
  clear h hrec hsend hap hn1 hn2 hrl
  generalize hsi : x.s.getD i M.zSt = si at *
  have HSI := Lib.hid hsi
  clear hsi
  go_enter Try.func12, Try.ntmps12
  go_upto_region 1 with fail
  refine wp_world (fun W => DnSt w W cb x L L o (.slice rA o.recs.length rc) (.slice sA o.send.length sc)) ?_ ?_
  · have hb : Below w.heap.size w (w.alloc (.cells [.bool o.save, .int .i64 o.hard.term, .int .i64 o.hard.vote, .int .i64 o.fr, .slice rA o.recs.length rc, .slice sA o.send.length sc].toArray 45)) := (Below.refl _ _).alloc (Nat.le_refl _) _
    exact ⟨HH.out.alloc _, fun _ _ h => h, (Fr.refl _ w).alloc _, heap_alloc_new w _, own_below HREC.out hb (Nat.le_refl _), HSEND.out.fr (S := fun _ => False) (Fr.of_below hb) (fun _ _ h => h) (fun _ _ _ _ h => h) (fun _ _ h => h), HAP.out⟩
  rintro W hW
  obtain ⟨c0, c1, c2⟩ := hW.ok.cells
  obtain ⟨s0, s1, s2, s3⟩ := hW.ok.scells hi
  rw [HSI.out] at s0 s1 s3
  have HW := Lib.hid hW
  clear hW
  by_cases q1 : si.stop = 1
  · have d1 : (si.stop == 1) = true := by simp [q1]
    have hnew := HN1.out q1
    have hD : M.done x i o = M.start x i := by
      unfold M.done; rw [HSI.out, if_pos q1]
    have HD := Lib.hid hD
    have HNEW := Lib.hid hnew
    clear q1 hnew hD
    go_wp2_with fail
    refine ((start_calls HW.out.ok hi (by rw [HSI.out]; exact HNEW.out)).mono ?_)
    rintro e w2 hp
    rw [← HD.out] at hp
    obtain ⟨L', rfl, h2, h3, h4⟩ := ClPost.of hp HW.out.cls HW.out.fr
    have HP2 := Lib.hid h2
    have HP3 := Lib.hid h3
    have HP4 := Lib.hid h4
    clear hp h2 h3 h4
    go_wp2_with fail
    go_ret
    exact ⟨L', rfl, HP2.out, HP3.out, HP4.out⟩
  · have d1 : (si.stop == 1) = false := by simp [q1]
    obtain ⟨o0, o1, o2, o3, o4, o5⟩ := HW.out.cells
    have hx1 : ∃ s1 : M.St, s1 = { si with hard := if o.save = true then o.hard else si.hard } := ⟨_, rfl⟩
    obtain ⟨st1, hst1⟩ := hx1
    have HST1 := Lib.hid hst1
    clear hst1
    have f0 := HW.out.ok.sfree (i * 4)
    have f1 := HW.out.ok.sfree (i * 4 + 1)
    go_upto_if 21 with (fail)
    go_cut [2] (fun _ wx => DnSt w wx cb { x with s := x.s.set i st1 } L L o (.slice rA o.recs.length rc) (.slice sA o.send.length sc))
    case first =>
      cases hsv : o.save
      · rw [hsv] at o0
        go_wp2_with fail
        go_meet
        case rel =>
          have e1 : st1 = si := by rw [HST1.out, hsv]; rfl
          have e2 : ({ x with s := x.s.set i st1 } : M.Cl) = x := by rw [e1, ← HSI.out, set_getD]
          rw [e2]
          exact HW.out
      · rw [hsv] at o0
        go_wp2_with fail
        go_region
        all_goals (go_wp2_with fail; go_meet)
        case rel =>
          have e1 : st1 = { si with hard := o.hard } := by rw [HST1.out, hsv]; rfl
          have hok1 := HW.out.ok.putS hi 0 (.int .i64 o.hard.term) { x.s.getD i M.zSt with hard := ⟨o.hard.term, (x.s.getD i M.zSt).hard.vote⟩ } _ rfl rfl rfl (by omega)
          have hok2 := hok1.putS hi 1 (.int .i64 o.hard.vote) st1 (L.lv i) (by dsimp only; rw [M.getD_set_eq _ _ _ _ (by rw [HH.out.sN]; exact hi), HSI.out, e1]) rfl
            (by dsimp only; rw [M.getD_set_eq _ _ _ _ (by rw [HH.out.sN]; exact hi), HSI.out, e1]; rfl) (by omega)
          dsimp only at hok2
          rw [List.set_set] at hok2
          have hF := ((Fr.refl (fun k => k = L.sA) W).setCell (p := ⟨L.sA, i * 4, none⟩) (.inl rfl) (.int .i64 o.hard.term)).setCell (p := ⟨L.sA, i * 4 + 1, none⟩) (.inl rfl) (.int .i64 o.hard.vote)
          exact (HW.out.putS rfl rfl (fun _ h => h) hok2 hF).below (Below.refl _ _).drew
    case rest =>
      clear c0 c1 c2 s0 s1 s2 s3 o0 o1 o2 o3 o4 o5 HW f0 f1
      have HW := Lib.hid hcut
      clear hcut
      obtain ⟨c0, c1, c2⟩ := HW.out.ok.cells
      obtain ⟨s0, s1, s2, s3⟩ := HW.out.ok.scells hi
      obtain ⟨o0, o1, o2, o3, o4, o5⟩ := HW.out.cells
      have hgs : (x.s.set i st1).getD i M.zSt = st1 := M.getD_set_eq _ _ _ _ (by rw [HH.out.sN]; exact hi)
      dsimp only at c2 s0 s1 s3
      rw [hgs] at s0 s1 s3
      have hlv := (HW.out.ok.slog i hi).1
      dsimp only at hlv
      rw [hgs] at hlv
      have hl1 : st1.log = si.log := by rw [HST1.out]
      rw [hl1] at hlv
      obtain ⟨lA, lc, hlv2⟩ := own_form hlv
      rw [hlv2] at s2 hlv
      have HLV := Lib.hid hlv
      have HLV2 := Lib.hid hlv2
      have HGS := Lib.hid hgs
      have HL1 := Lib.hid hl1
      clear hlv hlv2 hgs hl1
      go_upto_if 33 with (fail)
      go_cut [] (fun wx => ∃ v, DnSt w wx cb { x with s := x.s.set i (M.kept si o) } L { L with lv := M.up L.lv i v } o (.slice rA o.recs.length rc) (.slice sA o.send.length sc))
      case first =>
        by_cases hfr : 0 < o.fr
        · obtain ⟨hr1, hr2⟩ := HRL.out hfr
          have hmin : ∃ P : Int, P = min (o.fr - 1) (si.log.length : Int) := ⟨_, rfl⟩
          obtain ⟨P, hP⟩ := hmin
          have hP0 : 0 ≤ P ∧ P ≤ si.log.length := by omega
          have hmm : (if (si.log.length : Int) < o.fr - 1 then (si.log.length : Int) else o.fr - 1) = P := by split <;> omega
          obtain ⟨tv, htv, hrun⟩ := recs_take_slice (Sl.of_own HLV.out) P hP0.1 hP0.2
          have hkept : M.kept si o = { st1 with log := si.log.take P.toNat ++ o.recs } := by
            unfold M.kept
            rw [if_pos hfr, hP, HST1.out]
          have HKEPT := Lib.hid hkept
          have hwr : IntKind.i64.wrap (o.fr - 1) = o.fr - 1 := IntWalk.i64_in _ (by omega)
          have htl : (si.log.take P.toNat).length ≤ 4000 := by rw [List.length_take]; omega
          generalize hxs : si.log.take P.toNat = tl at htl htv
          have HTV := Lib.hid htv
          have HXS := Lib.hid hxs
          have HP := Lib.hid hP
          clear hP hkept hxs htv
          have hbW := HW.out.bkind.lt
          have hcW := HW.out.ok.kind.lt
          have hsW := HW.out.ok.skind.lt
          have hS : ∀ w', Below wc.heap.size wc w' → (Below wc.heap.size wc w' ∧ w'.cell? ⟨cb, 1, none⟩ = some (.slice (some ⟨L.sA, 0, none⟩) 3 L.sc) ∧ w'.cell? ⟨L.sA, i * 4 + 2, none⟩ = some (.slice lA si.log.length lc) ∧ w'.cell? ⟨w.heap.size, 3, none⟩ = some (.int .i64 o.fr) ∧ w'.cell? ⟨w.heap.size, 4, none⟩ = some (.slice rA o.recs.length rc)) := fun w' hb =>
            ⟨hb, (hb.cell (p := ⟨cb, 1, none⟩) hcW).trans c1, (hb.cell (p := ⟨L.sA, i * 4 + 2, none⟩) hsW).trans s2, (hb.cell (p := ⟨w.heap.size, 3, none⟩) hbW).trans o3, (hb.cell (p := ⟨w.heap.size, 4, none⟩) hbW).trans o4⟩
          have HSS := Lib.hid hS
          have hs2 := s2
          have HS2 := Lib.hid hs2
          have fs2 := HW.out.ok.sfree (i * 4 + 2)
          have HF2 := Lib.hid fs2
          have HC1 := Lib.hid c1
          clear hS hs2 fs2 c0 c1 c2 s0 s1 s2 s3 o0 o1 o2 o3 o4 o5
          have o3 := (HSS.out wc (Below.refl _ _)).2.2.2.1
          have hfr' : decide (0 < o.fr) = true := by simpa using hfr
          go_upto_region 6 with fail
          clear o3
          refine wp_region_noPanic ?_
          refine wp_region_last (S := fun w' => Below wc.heap.size wc w' ∧ w'.cell? ⟨cb, 1, none⟩ = some (.slice (some ⟨L.sA, 0, none⟩) 3 L.sc) ∧ w'.cell? ⟨L.sA, i * 4 + 2, none⟩ = some (.slice lA si.log.length lc) ∧ w'.cell? ⟨w.heap.size, 3, none⟩ = some (.int .i64 o.fr) ∧ w'.cell? ⟨w.heap.size, 4, none⟩ = some (.slice rA o.recs.length rc)) (by kernel_rfl) (by kernel_rfl) (last_split _ (by kernel_rfl)) (HSS.out _ (Below.refl _ _).drew) (fun hHeld => ?_)
          simp only [List.pop_toArray, List.dropLast_cons_cons, List.dropLast_singleton, List.back?_toArray, List.getLast?_cons_cons, List.getLast?_singleton, Option.getD_some]
          refine wpAnyH_take (i := 0) (v := ?_) rfl (by kernel_rfl) (by kernel_rfl) (by kernel_rfl) (fun _ _ _ h => h) (Or.inl ⟨by rfl, ?_⟩) (by assumption) ?_
          rotate_left 1
          · intro w' hSw
            (try dsimp only at hSw)
            go_simp
            (try with_reducible rfl)
          (try simp only [Act.put, List.setIfInBounds_toArray, List.set_cons_zero, List.set_cons_succ])
          refine wpAnyH_take (i := 1) (v := ?_) rfl (by kernel_rfl) (by kernel_rfl) (by kernel_rfl) (fun _ _ _ h => h) (Or.inl ⟨by rfl, ?_⟩) (by assumption) ?_
          rotate_left 1
          · intro w' hSw
            (try dsimp only at hSw)
            go_simp
            (try with_reducible rfl)
          (try simp only [Act.put, List.setIfInBounds_toArray, List.set_cons_zero, List.set_cons_succ])
          refine wpAnyH_take (i := 2) (v := ?_) rfl (by kernel_rfl) (by kernel_rfl) (by kernel_rfl) (fun _ _ _ h => h) (Or.inl ⟨by rfl, ?_⟩) (by assumption) ?_
          rotate_left 1
          · intro w' hSw
            (try dsimp only at hSw)
            go_simp
            (try with_reducible rfl)
          (try simp only [Act.put, List.setIfInBounds_toArray, List.set_cons_zero, List.set_cons_succ])
          refine wpAnyH_take (i := 3) (v := ?_) rfl (by kernel_rfl) (by kernel_rfl) (by kernel_rfl) (fun _ _ _ h => h) (Or.inl ⟨by rfl, ?_⟩) (by assumption) ?_
          rotate_left 1
          · intro w' hSw
            (try dsimp only at hSw)
            go_simp
            (try with_reducible rfl)
          (try simp only [Act.put, List.setIfInBounds_toArray, List.set_cons_zero, List.set_cons_succ])
          refine wpAnyH_take (i := 4) (v := ?_) rfl (by kernel_rfl) (by kernel_rfl) (by kernel_rfl) (fun _ _ _ h => h) (Or.inl ⟨by rfl, ?_⟩) (by assumption) ?_
          rotate_left 1
          · intro w' hSw
            (try dsimp only at hSw)
            go_simp
            (try with_reducible rfl)
          (try simp only [Act.put, List.setIfInBounds_toArray, List.set_cons_zero, List.set_cons_succ])
          refine wpAnyH_take (i := 6) (v := ?_) rfl (by kernel_rfl) (by kernel_rfl) (by kernel_rfl) (fun _ _ _ h => h) (Or.inl ⟨by rfl, ?_⟩) (by assumption) ?_
          rotate_left 1
          · intro w' hSw
            (try dsimp only at hSw)
            go_simp
            (try with_reducible rfl)
          (try simp only [Act.put, List.setIfInBounds_toArray, List.set_cons_zero, List.set_cons_succ])
          refine wpAnyH_take (i := 7) (v := ?_) rfl (by kernel_rfl) (by kernel_rfl) (by kernel_rfl) (fun _ _ _ h => h) (Or.inl ⟨by rfl, ?_⟩) (by assumption) ?_
          rotate_left 1
          · intro w' hSw
            (try dsimp only at hSw)
            go_simp
            (try with_reducible rfl)
          (try simp only [Act.put, List.setIfInBounds_toArray, List.set_cons_zero, List.set_cons_succ])
          refine wpAnyH_take (i := 8) (v := ?_) rfl (by kernel_rfl) (by kernel_rfl) (by kernel_rfl) (fun _ _ _ h => h) (Or.inl ⟨by rfl, ?_⟩) (by assumption) ?_
          rotate_left 1
          · intro w' hSw
            (try dsimp only at hSw)
            go_simp
            (try with_reducible rfl)
          (try simp only [Act.put, List.setIfInBounds_toArray, List.set_cons_zero, List.set_cons_succ])
          refine wpAnyH_take (i := 9) (v := ?_) rfl (by kernel_rfl) (by kernel_rfl) (by kernel_rfl) (fun _ _ _ h => h) (Or.inl ⟨by rfl, ?_⟩) (by assumption) ?_
          rotate_left 1
          · intro w' hSw
            (try dsimp only at hSw)
            go_simp
            (try with_reducible rfl)
          (try simp only [Act.put, List.setIfInBounds_toArray, List.set_cons_zero, List.set_cons_succ])
          refine wpAnyH_take (i := 10) (v := ?_) rfl (by kernel_rfl) (by kernel_rfl) (by kernel_rfl) (fun _ _ _ h => h) (Or.inl ⟨by rfl, ?_⟩) (by assumption) ?_
          rotate_left 1
          · intro w' hSw
            (try dsimp only at hSw)
            go_simp
            (try with_reducible rfl)
          (try simp only [Act.put, List.setIfInBounds_toArray, List.set_cons_zero, List.set_cons_succ])
          refine wpAnyH_take (i := 11) (v := ?_) rfl (by kernel_rfl) (by kernel_rfl) (by kernel_rfl) (fun _ _ _ h => h) (Or.inl ⟨by rfl, ?_⟩) (by assumption) ?_
          rotate_left 1
          · intro w' hSw
            (try dsimp only at hSw)
            go_simp
            (try with_reducible rfl)
          (try simp only [Act.put, List.setIfInBounds_toArray, List.set_cons_zero, List.set_cons_succ])
          refine wpAnyH_take (i := 12) (v := ?_) rfl (by kernel_rfl) (by kernel_rfl) (by kernel_rfl) (fun _ _ _ h => h) (Or.inl ⟨by rfl, ?_⟩) (by assumption) ?_
          rotate_left 1
          · intro w' hSw
            (try dsimp only at hSw)
            go_simp
            (try with_reducible rfl)
          (try simp only [Act.put, List.setIfInBounds_toArray, List.set_cons_zero, List.set_cons_succ])
          refine wpAnyH_take (i := 13) (v := ?_) rfl (by kernel_rfl) (by kernel_rfl) (by kernel_rfl) (fun _ _ _ h => h) (Or.inl ⟨by rfl, ?_⟩) (by assumption) ?_
          rotate_left 1
          · intro w' hSw
            (try dsimp only at hSw)
            go_simp
            (try with_reducible rfl)
          (try simp only [Act.put, List.setIfInBounds_toArray, List.set_cons_zero, List.set_cons_succ])
          refine wpAnyH_take (i := 14) (v := ?_) rfl (by kernel_rfl) (by kernel_rfl) (by kernel_rfl) (fun _ _ _ h => h) (Or.inl ⟨by rfl, ?_⟩) (by assumption) ?_
          rotate_left 1
          · intro w' hSw
            (try dsimp only at hSw)
            go_simp
            (try with_reducible rfl)
          (try simp only [Act.put, List.setIfInBounds_toArray, List.set_cons_zero, List.set_cons_succ])
          refine wpAnyH_take (i := 15) (v := ?_) rfl (by kernel_rfl) (by kernel_rfl) (by kernel_rfl) (fun _ _ _ h => h) (Or.inl ⟨by rfl, ?_⟩) (by assumption) ?_
          rotate_left 1
          · intro w' hSw
            (try dsimp only at hSw)
            go_simp
            (try with_reducible rfl)
          (try simp only [Act.put, List.setIfInBounds_toArray, List.set_cons_zero, List.set_cons_succ])
          refine wpAnyH_take (i := 16) (v := ?_) rfl (by kernel_rfl) (by kernel_rfl) (by kernel_rfl) (fun _ _ _ h => h) (Or.inl ⟨by rfl, ?_⟩) (by assumption) ?_
          rotate_left 1
          · intro w' hSw
            (try dsimp only at hSw)
            go_simp
            (try with_reducible rfl)
          (try simp only [Act.put, List.setIfInBounds_toArray, List.set_cons_zero, List.set_cons_succ])
          refine wpAnyH_take (i := 17) (v := ?_) rfl (by kernel_rfl) (by kernel_rfl) (by kernel_rfl) (fun _ _ _ h => h) (Or.inl ⟨by rfl, ?_⟩) (by assumption) ?_
          rotate_left 1
          · intro w' hSw
            (try dsimp only at hSw)
            go_simp
            (try with_reducible rfl)
          (try simp only [Act.put, List.setIfInBounds_toArray, List.set_cons_zero, List.set_cons_succ])
          refine wpAnyH_take (i := 18) (v := ?_) rfl (by kernel_rfl) (by kernel_rfl) (by kernel_rfl) (fun _ _ _ h => h) (Or.inl ⟨by rfl, ?_⟩) (by assumption) ?_
          rotate_left 1
          · intro w' hSw
            (try dsimp only at hSw)
            go_simp
            (try with_reducible rfl)
          (try simp only [Act.put, List.setIfInBounds_toArray, List.set_cons_zero, List.set_cons_succ])
          refine wpAnyH_take (i := 19) (v := ?_) rfl (by kernel_rfl) (by kernel_rfl) (by kernel_rfl) (fun _ _ _ h => h) (Or.inl ⟨by rfl, ?_⟩) (by assumption) ?_
          rotate_left 1
          · intro w' hSw
            (try dsimp only at hSw)
            go_simp
            (try with_reducible rfl)
          (try simp only [Act.put, List.setIfInBounds_toArray, List.set_cons_zero, List.set_cons_succ])
          refine wpAnyH_take (i := 20) (v := ?_) rfl (by kernel_rfl) (by kernel_rfl) (by kernel_rfl) (fun _ _ _ h => h) (Or.inl ⟨by rfl, ?_⟩) (by assumption) ?_
          rotate_left 1
          · intro w' hSw
            (try dsimp only at hSw)
            go_simp
            (try with_reducible rfl)
          (try simp only [Act.put, List.setIfInBounds_toArray, List.set_cons_zero, List.set_cons_succ])
          refine wpAnyH_take (i := 21) (v := ?_) rfl (by kernel_rfl) (by kernel_rfl) (by kernel_rfl) (fun _ _ _ h => h) (Or.inl ⟨by rfl, ?_⟩) (by assumption) ?_
          rotate_left 1
          · intro w' hSw
            (try dsimp only at hSw)
            go_simp
            (try with_reducible rfl)
          (try simp only [Act.put, List.setIfInBounds_toArray, List.set_cons_zero, List.set_cons_succ])
          refine wpAnyH_take (i := 22) (v := ?_) rfl (by kernel_rfl) (by kernel_rfl) (by kernel_rfl) (fun _ _ _ h => h) (Or.inl ⟨by rfl, ?_⟩) (by assumption) ?_
          rotate_left 1
          · intro w' hSw
            (try dsimp only at hSw)
            go_simp
            (try with_reducible rfl)
          (try simp only [Act.put, List.setIfInBounds_toArray, List.set_cons_zero, List.set_cons_succ])
          refine wpAnyH_take (i := 23) (v := ?_) rfl (by kernel_rfl) (by kernel_rfl) (by kernel_rfl) (fun _ _ _ h => h) (Or.inl ⟨by rfl, ?_⟩) (by assumption) ?_
          rotate_left 1
          · intro w' hSw
            (try dsimp only at hSw)
            go_simp
            (try with_reducible rfl)
          (try simp only [Act.put, List.setIfInBounds_toArray, List.set_cons_zero, List.set_cons_succ])
          refine wpAnyH_take (i := 24) (v := ?_) rfl (by kernel_rfl) (by kernel_rfl) (by kernel_rfl) (fun _ _ _ h => h) (Or.inl ⟨by rfl, ?_⟩) (by assumption) ?_
          rotate_left 1
          · intro w' hSw
            (try dsimp only at hSw)
            go_simp
            (try with_reducible rfl)
          (try simp only [Act.put, List.setIfInBounds_toArray, List.set_cons_zero, List.set_cons_succ])
          refine wpAnyH_take (i := 25) (v := ?_) rfl (by kernel_rfl) (by kernel_rfl) (by kernel_rfl) (fun _ _ _ h => h) (Or.inl ⟨by rfl, ?_⟩) (by assumption) ?_
          rotate_left 1
          · intro w' hSw
            (try dsimp only at hSw)
            go_simp
            (try with_reducible rfl)
          (try simp only [Act.put, List.setIfInBounds_toArray, List.set_cons_zero, List.set_cons_succ])
          refine wpAnyH_take (i := 26) (v := ?_) rfl (by kernel_rfl) (by kernel_rfl) (by kernel_rfl) (fun _ _ _ h => h) (Or.inl ⟨by rfl, ?_⟩) (by assumption) ?_
          rotate_left 1
          · intro w' hSw
            (try dsimp only at hSw)
            go_simp
            (try with_reducible rfl)
          (try simp only [Act.put, List.setIfInBounds_toArray, List.set_cons_zero, List.set_cons_succ])
          refine wpAnyH_take (i := 27) (v := ?_) rfl (by kernel_rfl) (by kernel_rfl) (by kernel_rfl) (fun _ _ _ h => h) (Or.inl ⟨by rfl, ?_⟩) (by assumption) ?_
          rotate_left 1
          · intro w' hSw
            (try dsimp only at hSw)
            go_simp
            (try with_reducible rfl)
          (try simp only [Act.put, List.setIfInBounds_toArray, List.set_cons_zero, List.set_cons_succ])
          refine wpAnyH_take (i := 29) (v := ?_) rfl (by kernel_rfl) (by kernel_rfl) (by kernel_rfl) (fun _ _ _ h => h) (Or.inl ⟨by rfl, ?_⟩) (by assumption) ?_
          rotate_left 1
          · intro w' hSw
            (try dsimp only at hSw)
            go_simp
            (try with_reducible rfl)
          (try simp only [Act.put, List.setIfInBounds_toArray, List.set_cons_zero, List.set_cons_succ])
          refine wpAnyH_take (i := 30) (v := ?_) rfl (by kernel_rfl) (by kernel_rfl) (by kernel_rfl) (fun _ _ _ h => h) (Or.inl ⟨by rfl, ?_⟩) (by assumption) ?_
          rotate_left 1
          · intro w' hSw
            (try dsimp only at hSw)
            go_simp
            (try with_reducible rfl)
          (try simp only [Act.put, List.setIfInBounds_toArray, List.set_cons_zero, List.set_cons_succ])
          refine wpAnyH_ready (rs := [5]) (by kernel_rfl) (by simp) ?_
          refine AllReadyH.cons rfl (fun K hK => ?_) AllReadyH.nil
          go_simp
          have hbA : Below wc.heap.size wc (wc.drew.alloc (.cells #[] 55)) := (Below.refl _ _).drew.alloc (Nat.le_refl _) _
          refine hK.out _ _ (HSS.out _ hbA) (fun hHeld2 => ?_)
          clear hK K
          (try simp only [Act.put, List.setIfInBounds_toArray, List.set_cons_zero, List.set_cons_succ])
          refine wpAnyH_ready (rs := [28]) (by kernel_rfl) (by simp) ?_
          refine AllReadyH.cons rfl (fun K hK => ?_) AllReadyH.nil
          have hq1 : (wc.alloc (.cells #[] 55)).drew.heap.size = wc.heap.size + 1 := by show (wc.alloc _).heap.size = _; simp
          have hnew : ((wc.alloc (.cells #[] 55)).drew).ownsRow wc.heap.size 55 2 (.slice (some ⟨wc.heap.size, 0, none⟩) 0 0) 0 (recsCells []) := own_new wc 55 2
          refine step_append_sl rfl _ _ 35 (by rfl) wc.heap.size 55 _ 2 24 Try.underlying35 info55 rfl (by decide) _ 0 (recsCells []) (by rfl) hnew (0 ≤ ·) tv tl.length (recsCells tl) (by rfl) (HTV.out.below (w' := (wc.alloc (.cells #[] 55)).drew) hbA (Nat.le_refl _)) (recsCells_one _) (by simp only [maxLen]; omega) (by omega) (by omega) ?_
          intro v1 w1 hown1 hg1 hat1
          obtain ⟨A1, n1, rfl⟩ := own_form hown1
          have hb1 : Below wc.heap.size wc w1 := hbA.grown (w := (wc.alloc (.cells #[] 55)).drew) hg1 (by omega) (fun q hq => Nat.le_of_eq (Option.some.inj hq))
          refine hK.out _ _ (HSS.out _ hb1) (fun hHeld3 => ?_)
          clear hK K
          (try simp only [Act.put, List.setIfInBounds_toArray, List.set_cons_zero, List.set_cons_succ])
          refine wpAnyH_ready (rs := [31]) (by kernel_rfl) (by simp) ?_
          refine AllReadyH.cons rfl (fun K hK => ?_) AllReadyH.nil
          have hown1' : w1.ownsRow wc.heap.size 55 2 (.slice A1 (0 + tl.length) n1) (0 + tl.length) (recsCells tl) := hown1
          have hs1 := hb1.size
          refine step_append_sl rfl _ _ 35 (by rfl) wc.heap.size 55 _ 2 24 Try.underlying35 info55 rfl (by decide) _ (0 + tl.length) (recsCells tl) (by rfl) hown1' (0 ≤ ·) (.slice rA o.recs.length rc) o.recs.length (recsCells o.recs) (by rfl) ((Sl.of_own HW.out.recs).below hb1 (Nat.le_refl _)) (recsCells_one _) (by simp only [maxLen]; omega) (by omega) (by omega) ?_
          intro v2 w2 hown2 hg2 hat2
          obtain ⟨A2, n2, rfl⟩ := own_form hown2
          have hb2 : Below wc.heap.size wc w2 := hb1.grown hg2 hs1 (fun q hq => (own_lt hown1' hq).1)
          refine hK.out _ _ (HSS.out _ hb2) (fun hHeld4 => ?_)
          clear hK K
          (try simp only [Act.put, List.setIfInBounds_toArray, List.set_cons_zero, List.set_cons_succ])
          refine wpAnyH_take (i := 32) (v := ?_) rfl (by kernel_rfl) (by kernel_rfl) (by kernel_rfl) (fun _ _ _ h => h) (Or.inl ⟨by rfl, ?_⟩) (by assumption) ?_
          rotate_left 1
          · intro w' hSw
            (try dsimp only at hSw)
            go_simp
            (try with_reducible rfl)
          (try simp only [Act.put, List.setIfInBounds_toArray, List.set_cons_zero, List.set_cons_succ])
          refine wpAnyH_take (i := 33) (v := ?_) rfl (by kernel_rfl) (by kernel_rfl) (by kernel_rfl) (fun _ _ _ h => h) (Or.inl ⟨by rfl, ?_⟩) (by assumption) ?_
          rotate_left 1
          · intro w' hSw
            (try dsimp only at hSw)
            go_simp
            (try with_reducible rfl)
          (try simp only [Act.put, List.setIfInBounds_toArray, List.set_cons_zero, List.set_cons_succ])
          refine wpAnyH_done (by kernel_rfl) ?_ _
          unfold LastQ
          have x2 := hHeld4.2.2.1
          have xf2 : w2.frozen? ⟨L.sA, i * 4 + 2, none⟩ = false := (hb2.frozen (p := ⟨L.sA, i * 4 + 2, none⟩) hsW).trans HF2.out
          go_simp
          refine NoPanic.normal ?_
          go_wp2_with fail
          go_meet
          case rel =>
            have hn0 : tl.length + o.recs.length = (tl ++ o.recs).length := by simp
            have hown3 : w2.ownsRow wc.heap.size 55 2 (.slice A2 (tl ++ o.recs).length n2) (tl ++ o.recs).length (recsCells (tl ++ o.recs)) := by
              rw [← hn0, recsCells_append]
              simpa using hown2
            have hok := (HW.out.ok.below hb2).putL hi (tl ++ o.recs) (.slice A2 (tl ++ o.recs).length n2) (own_mono hown3 (Nat.zero_le _)) (fun k hk hx => by
              obtain ⟨j, hj, ad, e1, rfl⟩ := hx
              have h1 := (own_lt hown3 hk).1
              have h2 := (HW.out.ok.akind hj e1).lt
              omega)
            dsimp only at hok
            rw [HGS.out, List.set_set] at hok
            have hkp := HKEPT.out
            rw [HXS.out] at hkp
            rw [hn0, hkp]
            exact ⟨_, (HW.out.below hb2).putS rfl rfl (fun _ h => h) hok (fr_setCell w2 ⟨L.sA, i * 4 + 2, none⟩ _)⟩
        · have hfr' : decide (0 < o.fr) = false := by simpa using hfr
          have hkept : M.kept si o = st1 := by
            unfold M.kept
            rw [if_neg hfr, HST1.out]
          have HKEPT := Lib.hid hkept
          have hfr2 : o.fr ≤ 0 := by omega
          clear hkept hfr
          go_wp2_with fail
          go_meet
          case rel =>
            rw [HKEPT.out]
            refine ⟨L.lv i, ?_⟩
            have : ({ L with lv := M.up L.lv i (L.lv i) } : Lay) = L := by
              have e : M.up L.lv i (L.lv i) = L.lv := by
                funext v
                by_cases e : v = i
                · subst e; exact M.up_at _ _ _
                · exact M.up_ne _ _ e
              rw [e]
            rw [this]
            exact HW.out
      case rest =>
        clear c0 c1 c2 s0 s1 s2 s3 o0 o1 o2 o3 o4 o5 HW HLV HLV2 HGS HL1
        obtain ⟨v, hW⟩ := hcut
        have hgs : (x.s.set i (M.kept si o)).getD i M.zSt = M.kept si o := M.getD_set_eq _ _ _ _ (by rw [HH.out.sN]; exact hi)
        generalize hL2 : ({ L with lv := M.up L.lv i v } : Lay) = L2 at hW
        have hsA : L2.sA = L.sA := by rw [← hL2]
        have HSA := Lib.hid hsA
        clear hL2 hsA
        obtain ⟨c0, c1, c2⟩ := hW.ok.cells
        obtain ⟨s0, s1, s2, s3⟩ := hW.ok.scells hi
        dsimp only at c2 s3
        rw [hgs] at s3
        change wc.cell? _ = some (.int .i64 si.stop) at s3
        have HW := Lib.hid hW
        have HGS := Lib.hid hgs
        clear hW hgs s0 s1 s2
        by_cases q2 : si.stop = 2
        · have d2 : (si.stop == 2) = true := by simp [q2]
          have hnew := HN2.out q2
          have hD : M.done x i o = M.start { x with s := x.s.set i (M.kept si o) } i := by
            unfold M.done; rw [HSI.out, if_neg q1, if_pos q2]
          have HD := Lib.hid hD
          have HNEW := Lib.hid hnew
          clear q1 q2 hnew hD
          go_wp2_with fail
          refine ((start_calls HW.out.ok hi (by dsimp only; rw [HGS.out]; exact HNEW.out)).mono ?_)
          rintro e w2 hp
          rw [← HD.out] at hp
          obtain ⟨L', rfl, h2, h3, h4⟩ := ClPost.of hp HW.out.cls HW.out.fr
          have HP2 := Lib.hid h2
          have HP3 := Lib.hid h3
          have HP4 := Lib.hid h4
          clear hp h2 h3 h4
          go_wp2_with fail
          go_ret
          exact ⟨L', rfl, HP2.out, HP3.out, HP4.out⟩
        · have d2 : (si.stop == 2) = false := by simp [q2]
          have hD : M.done x i o = { x with s := x.s.set i (M.kept si o), sent := x.sent ++ o.send.take (300 - x.sent.length) } := by
            unfold M.done; rw [HSI.out, if_neg q1, if_neg q2]
          have HD := Lib.hid hD
          have hx300 := HW.out.ok.mN
          dsimp only at hx300
          clear q1 q2 hD
          go_wp2_with fail
          go_loopw [7] (fun kv wr => ∃ (k : Nat) (L3 : Lay), kv = .int .i64 k ∧ k ≤ o.send.length ∧ x.sent.length + k ≤ 300 ∧ DnSt w wr cb { x with s := x.s.set i (M.kept si o), sent := x.sent ++ o.send.take k } L L3 o (.slice rA o.recs.length rc) (.slice sA o.send.length sc)) (fun kv _ => o.send.length - (intOf kv).toNat)
          case atStart => exact ⟨0, L2, rfl, Nat.zero_le _, by omega, by simpa using HW.out⟩
          case round =>
            clear HW c0 c1 c2 s3
            obtain ⟨k, L3, rfl, hk1, hk2, hW⟩ := hrel
            have hsl : (x.sent ++ o.send.take k).length = x.sent.length + k := by rw [List.length_append, List.length_take]; omega
            obtain ⟨c0, c1, c2⟩ := hW.ok.cells
            dsimp only at c2
            rw [hsl] at c2
            obtain ⟨o0, o1, o2, o3, o4, o5⟩ := hW.cells
            have HSL := Lib.hid hsl
            have hcf := cell_blk hW.ok.blk 2
            have HW := Lib.hid hW
            clear hW hsl o0 o1 o2 o3 o4 c0 c1 hcf
            have hfin : (k = o.send.length ∨ x.sent.length + k = 300) → ClPost w cb L (M.done x i o) (.returned (.bool true)) wr := fun hk => by
              have e : o.send.take (300 - x.sent.length) = o.send.take k := by
                rcases hk with hk | hk
                · rw [List.take_of_length_le (by omega), List.take_of_length_le (by omega)]
                · congr 1; omega
              refine ⟨L3, rfl, ?_, HW.out.cls, HW.out.fr⟩
              rw [HD.out, e]
              exact HW.out.ok
            have HFIN := Lib.hid hfin
            clear hfin
            by_cases h1 : k < o.send.length
            · have h1I : (k : Int) < (o.send.length : Int) := by omega
              by_cases h2 : x.sent.length + k < 300
              · have h2I : (x.sent.length : Int) + (k : Int) < 300 := by omega
                go_upto_region 12 with fail
                clear o5 c2
                obtain ⟨pso, e1, e2, e3⟩ := HW.out.send
                obtain ⟨ps, d3, d4, d5⟩ := HW.out.ok.sent
                have hpl : ps.length = x.sent.length + k := by
                  have := HSL.out
                  dsimp only at d3
                  rw [d3, List.length_map] at this
                  exact this
                have hpo : pso.length = o.send.length := by rw [e1, List.length_map]
                have hkp : k < pso.length := by omega
                rw [hpo] at e2
                have c2 := HW.out.ok.cells.2.2
                have o5 := HW.out.cells.2.2.2.2.2
                dsimp only at c2 d3 d4
                rw [HSL.out, ← hpl] at c2 d4
                obtain ⟨g, rfl⟩ : ∃ g, sA = some ⟨g, 0, none⟩ := by
                  cases sA with
                  | none => have := own_nil e2 rfl; omega
                  | some ad =>
                    obtain ⟨g, off, sp⟩ := ad
                    obtain ⟨rfl, rfl, _⟩ := own_cell e2 rfl
                    exact ⟨g, rfl⟩
                have hmk : o.send.take (k + 1) = o.send.take k ++ [pso[k].1] := by
                  rw [e1, List.take_succ_eq_append_getElem (by rw [List.length_map]; exact hkp), List.getElem_map]
                have hat := fun j (hj : j < 9) => (own_cell e2 rfl).2.2.2.2 (k * 9 + j) _ ((msgsCells_at pso k hkp j hj).trans (List.getElem?_eq_getElem (by simpa [msgCells] using hj)))
                have hp3 := e3 pso[k] (List.getElem_mem hkp)
                generalize hpk : pso[k] = p at hat hp3 hmk
                obtain ⟨m, pv⟩ := p
                have y0 := hat 0 (by decide)
                have y1 := hat 1 (by decide)
                have y2 := hat 2 (by decide)
                have y3 := hat 3 (by decide)
                have y4 := hat 4 (by decide)
                have y5 := hat 5 (by decide)
                have y6 := hat 6 (by decide)
                have y7 := hat 7 (by decide)
                have y8 := hat 8 (by decide)
                simp only [msgCells, List.getElem_cons_zero, List.getElem_cons_succ, Nat.add_zero] at y0 y1 y2 y3 y4 y5 y6 y7 y8
                have hgk : Kind wr g 37 := own_kind e2 rfl
                have hgM : ¬ MS L3 g := fun ⟨ad, q1, q2⟩ => HW.out.apart ad q1 (by rw [q2]; rfl)
                have hMS : ∀ {k T}, Kind wr k T → T ≠ 37 → ¬ MS L3 k := fun hk hT ⟨ad, e1, e2⟩ => hk.ne (HW.out.ok.mkind e1) hT e2.symm
                have hcM := hMS HW.out.ok.kind (by decide)
                have hbM := hMS HW.out.bkind (by decide)
                have hcl := HW.out.ok.kind.lt
                have hbl := HW.out.bkind.lt
                have hS : ∀ w', Fr (MS L3) wr w' → (Fr (MS L3) wr w' ∧ w'.cell? ⟨cb, 2, none⟩ = some (.slice L3.mA ps.length L3.mc) ∧ w'.cell? ⟨w.heap.size, 5, none⟩ = some (.slice (some ⟨g, 0, none⟩) o.send.length sc) ∧
                    w'.cell? ⟨g, k * 9, none⟩ = some (.int .i64 m.kind) ∧ w'.cell? ⟨g, k * 9 + 1, none⟩ = some (.int .i64 m.fr) ∧ w'.cell? ⟨g, k * 9 + 2, none⟩ = some (.int .i64 m.to) ∧ w'.cell? ⟨g, k * 9 + 3, none⟩ = some (.int .i64 m.term) ∧ w'.cell? ⟨g, k * 9 + 4, none⟩ = some (.int .i64 m.index) ∧
                    w'.cell? ⟨g, k * 9 + 5, none⟩ = some (.int .i64 m.prev) ∧ w'.cell? ⟨g, k * 9 + 6, none⟩ = some (.int .i64 m.commit) ∧ w'.cell? ⟨g, k * 9 + 7, none⟩ = some (.bool m.yes) ∧ w'.cell? ⟨g, k * 9 + 8, none⟩ = some pv) := fun w' hf =>
                  have hg : ∀ j u, wr.cell? ⟨g, j, none⟩ = u → w'.cell? ⟨g, j, none⟩ = u := fun j u hu => (World.cell?_of_block (w := wr) (hf.block g hgk.lt hgM)).trans hu
                  ⟨hf, (World.cell?_of_block (w := wr) (hf.block cb hcl hcM)).trans c2, (World.cell?_of_block (w := wr) (hf.block w.heap.size hbl hbM)).trans o5, hg _ _ y0, hg _ _ y1, hg _ _ y2, hg _ _ y3, hg _ _ y4, hg _ _ y5, hg _ _ y6, hg _ _ y7, hg _ _ y8⟩
                have HSS := Lib.hid hS
                have HC2 := Lib.hid c2
                have HD3 := Lib.hid d3
                have HD4 := Lib.hid d4
                have HD5 := Lib.hid d5
                have HPL := Lib.hid hpl
                have HMK := Lib.hid hmk
                have HP3 := Lib.hid hp3
                have hn300 : ps.length < 300 := by omega
                have hcfr := free_blk HW.out.ok.blk 2
                have HCFR := Lib.hid hcfr
                clear hS c2 o5 y0 y1 y2 y3 y4 y5 y6 y7 y8 hat e1 e2 e3 d3 d4 d5 hpl hmk hp3 hgM hMS hpk hcfr hpo hkp
                refine wp_region_noPanic ?_
                refine wp_region_last (S := fun w' => Fr (MS L3) wr w' ∧ w'.cell? ⟨cb, 2, none⟩ = some (.slice L3.mA ps.length L3.mc) ∧ w'.cell? ⟨w.heap.size, 5, none⟩ = some (.slice (some ⟨g, 0, none⟩) o.send.length sc) ∧
                    w'.cell? ⟨g, k * 9, none⟩ = some (.int .i64 m.kind) ∧ w'.cell? ⟨g, k * 9 + 1, none⟩ = some (.int .i64 m.fr) ∧ w'.cell? ⟨g, k * 9 + 2, none⟩ = some (.int .i64 m.to) ∧ w'.cell? ⟨g, k * 9 + 3, none⟩ = some (.int .i64 m.term) ∧ w'.cell? ⟨g, k * 9 + 4, none⟩ = some (.int .i64 m.index) ∧
                    w'.cell? ⟨g, k * 9 + 5, none⟩ = some (.int .i64 m.prev) ∧ w'.cell? ⟨g, k * 9 + 6, none⟩ = some (.int .i64 m.commit) ∧ w'.cell? ⟨g, k * 9 + 7, none⟩ = some (.bool m.yes) ∧ w'.cell? ⟨g, k * 9 + 8, none⟩ = some pv) (by kernel_rfl) (by kernel_rfl) (last_split _ (by kernel_rfl)) (HSS.out _ (Fr.refl _ _).drew) (fun hHeld => ?_)
                simp only [List.pop_toArray, List.dropLast_cons_cons, List.dropLast_singleton, List.back?_toArray, List.getLast?_cons_cons, List.getLast?_singleton, Option.getD_some]
                refine wpAnyH_take (i := 0) (v := ?_) rfl (by kernel_rfl) (by kernel_rfl) (by kernel_rfl) (fun _ _ _ h => h) (Or.inl ⟨by rfl, ?_⟩) (by assumption) ?_
                rotate_left 1
                · intro w' hSw
                  (try dsimp only at hSw)
                  go_simp
                  (try with_reducible rfl)
                (try simp only [Act.put, List.setIfInBounds_toArray, List.set_cons_zero, List.set_cons_succ])
                refine wpAnyH_take (i := 1) (v := ?_) rfl (by kernel_rfl) (by kernel_rfl) (by kernel_rfl) (fun _ _ _ h => h) (Or.inl ⟨by rfl, ?_⟩) (by assumption) ?_
                rotate_left 1
                · intro w' hSw
                  (try dsimp only at hSw)
                  go_simp
                  (try with_reducible rfl)
                (try simp only [Act.put, List.setIfInBounds_toArray, List.set_cons_zero, List.set_cons_succ])
                refine wpAnyH_take (i := 2) (v := ?_) rfl (by kernel_rfl) (by kernel_rfl) (by kernel_rfl) (fun _ _ _ h => h) (Or.inl ⟨by rfl, ?_⟩) (by assumption) ?_
                rotate_left 1
                · intro w' hSw
                  (try dsimp only at hSw)
                  go_simp
                  (try with_reducible rfl)
                (try simp only [Act.put, List.setIfInBounds_toArray, List.set_cons_zero, List.set_cons_succ])
                refine wpAnyH_take (i := 3) (v := ?_) rfl (by kernel_rfl) (by kernel_rfl) (by kernel_rfl) (fun _ _ _ h => h) (Or.inl ⟨by rfl, ?_⟩) (by assumption) ?_
                rotate_left 1
                · intro w' hSw
                  (try dsimp only at hSw)
                  go_simp
                  (try with_reducible rfl)
                (try simp only [Act.put, List.setIfInBounds_toArray, List.set_cons_zero, List.set_cons_succ])
                refine wpAnyH_take (i := 4) (v := ?_) rfl (by kernel_rfl) (by kernel_rfl) (by kernel_rfl) (fun _ _ _ h => h) (Or.inl ⟨by rfl, ?_⟩) (by assumption) ?_
                rotate_left 1
                · intro w' hSw
                  (try dsimp only at hSw)
                  go_simp
                  (try with_reducible rfl)
                (try simp only [Act.put, List.setIfInBounds_toArray, List.set_cons_zero, List.set_cons_succ])
                refine wpAnyH_take (i := 5) (v := ?_) rfl (by kernel_rfl) (by kernel_rfl) (by kernel_rfl) (fun _ _ _ h => h) (Or.inl ⟨by rfl, ?_⟩) (by assumption) ?_
                rotate_left 1
                · intro w' hSw
                  (try dsimp only at hSw)
                  go_simp
                  (try with_reducible rfl)
                (try simp only [Act.put, List.setIfInBounds_toArray, List.set_cons_zero, List.set_cons_succ])
                refine wpAnyH_take (i := 6) (v := ?_) rfl (by kernel_rfl) (by kernel_rfl) (by kernel_rfl) (fun _ _ _ h => h) (Or.inl ⟨by rfl, ?_⟩) (by assumption) ?_
                rotate_left 1
                · intro w' hSw
                  (try dsimp only at hSw)
                  go_simp
                  (try with_reducible rfl)
                (try simp only [Act.put, List.setIfInBounds_toArray, List.set_cons_zero, List.set_cons_succ])
                refine wpAnyH_take (i := 7) (v := ?_) rfl (by kernel_rfl) (by kernel_rfl) (by kernel_rfl) (fun _ _ _ h => h) (Or.inl ⟨by rfl, ?_⟩) (by assumption) ?_
                rotate_left 1
                · intro w' hSw
                  (try dsimp only at hSw)
                  go_simp
                  (try with_reducible rfl)
                (try simp only [Act.put, List.setIfInBounds_toArray, List.set_cons_zero, List.set_cons_succ])
                refine wpAnyH_take (i := 8) (v := ?_) rfl (by kernel_rfl) (by kernel_rfl) (by kernel_rfl) (fun _ _ _ h => h) (Or.inl ⟨by rfl, ?_⟩) (by assumption) ?_
                rotate_left 1
                · intro w' hSw
                  (try dsimp only at hSw)
                  go_simp
                  (try with_reducible rfl)
                (try simp only [Act.put, List.setIfInBounds_toArray, List.set_cons_zero, List.set_cons_succ])
                refine wpAnyH_take (i := 9) (v := ?_) rfl (by kernel_rfl) (by kernel_rfl) (by kernel_rfl) (fun _ _ _ h => h) (Or.inl ⟨by rfl, ?_⟩) (by assumption) ?_
                rotate_left 1
                · intro w' hSw
                  (try dsimp only at hSw)
                  go_simp
                  (try with_reducible rfl)
                (try simp only [Act.put, List.setIfInBounds_toArray, List.set_cons_zero, List.set_cons_succ])
                refine wpAnyH_ready (rs := [10]) (by kernel_rfl) (by simp) ?_
                refine AllReadyH.cons rfl (fun K hK => ?_) AllReadyH.nil
                go_simp
                have hfA : Fr (MS L3) wr ((wr.alloc (.cells (msgCells m pv).toArray 37)).drew) := ((Fr.refl _ wr).alloc _).drew
                refine hK.out _ _ (HSS.out _ hfA) (fun hHeld2 => ?_)
                clear hK K
                (try simp only [Act.put, List.setIfInBounds_toArray, List.set_cons_zero, List.set_cons_succ])
                refine wpAnyH_ready (rs := [11]) (by kernel_rfl) (by simp) ?_
                refine AllReadyH.cons rfl (fun K hK => ?_) AllReadyH.nil
                have hq1 : ((wr.alloc (.cells (msgCells m pv).toArray 37)).drew).heap.size = wr.heap.size + 1 := by show (wr.alloc _).heap.size = _; simp
                have hbA : Below wr.heap.size wr ((wr.alloc (.cells (msgCells m pv).toArray 37)).drew) := ((Below.refl _ _).alloc (Nat.le_refl _) _).drew
                have how := own_below HD4.out hbA (Nat.le_refl _)
                refine step_append_sl rfl _ _ 27 (by rfl) 0 37 _ 9 88 Try.underlying27 info37 rfl (by decide) _ ps.length (msgsCells ps) (by rfl) how (wr.heap.size ≤ ·) _ 1 (msgsCells [(m, pv)]) (by rfl) ((sl_one_msg wr m pv).below (Below.refl _ _).drew (Nat.le_refl _)) (msgsCells_one _ (one_owned HP3.out.1)) (by simp only [maxLen]; omega) (by omega) (by omega) ?_
                intro v1 w1 hown1 hg1 hat1
                obtain ⟨A1, n1, rfl⟩ := own_form hown1
                have hf1 : Fr (MS L3) wr w1 := hfA.grown hg1 (fun q hq => .inl (ms_own L3 _ hq))
                refine hK.out _ _ (HSS.out _ hf1) (fun hHeld3 => ?_)
                clear hK K
                (try simp only [Act.put, List.setIfInBounds_toArray, List.set_cons_zero, List.set_cons_succ])
                refine wpAnyH_take (i := 12) (v := ?_) rfl (by kernel_rfl) (by kernel_rfl) (by kernel_rfl) (fun _ _ _ h => h) (Or.inl ⟨by rfl, ?_⟩) (by assumption) ?_
                rotate_left 1
                · intro w' hSw
                  (try dsimp only at hSw)
                  go_simp
                  (try with_reducible rfl)
                (try simp only [Act.put, List.setIfInBounds_toArray, List.set_cons_zero, List.set_cons_succ])
                refine wpAnyH_take (i := 13) (v := ?_) rfl (by kernel_rfl) (by kernel_rfl) (by kernel_rfl) (fun _ _ _ h => h) (Or.inl ⟨by rfl, ?_⟩) (by assumption) ?_
                rotate_left 1
                · intro w' hSw
                  (try dsimp only at hSw)
                  go_simp
                  (try with_reducible rfl)
                (try simp only [Act.put, List.setIfInBounds_toArray, List.set_cons_zero, List.set_cons_succ])
                refine wpAnyH_done (by kernel_rfl) ?_ _
                unfold LastQ
                have x2 := hHeld3.2.1
                have xf2 : w1.frozen? ⟨cb, 2, none⟩ = false := by
                  rw [World.frozen?_of_block (w := wr) (hf1.block cb hcl hcM)]; exact HCFR.out
                go_simp
                refine NoPanic.normal ?_
                go_wp2_with fail
                go_roundw
                case rel =>
                  have hpush := HW.out.ok.push hf1 HD3.out HD5.out hown1 HP3.out.1 HP3.out.2 (by dsimp only; rw [HSL.out]; omega)
                  have hmx : A1 = L3.mA ∨ ∀ ad, A1 = some ad → wr.heap.size ≤ ad.block := (own_grow how (own_mono hown1 (Nat.zero_le _)) hat1).imp id (fun h ad e => by have := h ad e; omega)
                  have := HW.out.push hmx hf1 hpush
                  dsimp only at this
                  rw [List.append_assoc, ← HMK.out] at this
                  exact ⟨k + 1, _, by go_num, by omega, by omega, this⟩
                case measure => simp [intOf]; omega
              · have h2I : (300 : Int) ≤ (x.sent.length : Int) + (k : Int) := by omega
                go_wp2_with fail
                go_ret
                exact HFIN.out (.inr (by omega))
            · have h1I : (o.send.length : Int) ≤ (k : Int) := by omega
              go_wp2_with fail
              go_ret
              exact HFIN.out (.inl (by omega))
end
end Go.Proofs.Ytodmihpmbecncaa
