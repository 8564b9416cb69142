/-
  The walk of law Tells: it returns true.
-/
import Derived.Test.YtodmihpmbecncaaTm
namespace Go.Proofs.Ytodmihpmbecncaa
open Go.RowKit

/-- What stands below the loop, and stays. -/
structure TlArg (w W : World) (l : List M.Op) (vl : Value) (ms : List (Msg × Value)) (vm : Value) : Prop where
  ops : Sl W (· < w.heap.size) 4 vl l.length (opsCells l)
  msgs : Sl W (· < w.heap.size) 9 vm ms.length (msgsCells ms)
  recs : ∀ p ∈ ms, Sl W (· < w.heap.size) 2 p.2 p.1.recs.length (recsCells p.1.recs)
  bel : Below w.heap.size w W
theorem TlArg.below {w W W' : World} {l : List M.Op} {vl : Value} {ms : List (Msg × Value)} {vm : Value} (h : TlArg w W l vl ms vm) (hb : Below w.heap.size w W') (hf : Fr (fun k => w.heap.size ≤ k) W W') : TlArg w W' l vl ms vm where
  ops := h.ops.fr hf (fun b q e => by have : b < w.heap.size := q; have : w.heap.size ≤ b := e; omega)
  msgs := h.msgs.fr hf (fun b q e => by have : b < w.heap.size := q; have : w.heap.size ≤ b := e; omega)
  recs p hp := (h.recs p hp).fr hf (fun b q e => by have : b < w.heap.size := q; have : w.heap.size ≤ b := e; omega)
  bel := hb
theorem Fr.belowOf {B : Nat} {w W W' : World} (h : Below B w W) (hB : B ≤ w.heap.size) {S : Nat → Prop} (hf : Fr S W W') (hS : ∀ k, S k → B ≤ k) : Below B w W' :=
  ⟨hf.os.trans h.os, hf.tape.trans h.tape, hf.output.trans h.output, Nat.le_trans h.size hf.size, fun k hk => (hf.block k (by have := h.size; omega) (fun q => by have := hS k q; omega)).trans (h.block k hk)⟩
theorem TlArg.fr {S : Nat → Prop} {w W W' : World} {l : List M.Op} {vl : Value} {ms : List (Msg × Value)} {vm : Value} (h : TlArg w W l vl ms vm) (hf : Fr S W W') (hS : ∀ k, S k → w.heap.size ≤ k) : TlArg w W' l vl ms vm :=
  h.below (Fr.belowOf h.bel (Nat.le_refl _) hf hS) (hf.mono (fun k q => .inl (hS k q)))

def outArr (o : Out) (rv sv : Value) : Array Value := #[.bool o.save, .int .i64 o.hard.term, .int .i64 o.hard.vote, .int .i64 o.fr, rv, sv]
/-- The program's replica is called, and the result stored. -/
theorem tlA {w W w2 : World} {l : List M.Op} {vl : Value} {ms : List (Msg × Value)} {vm : Value} {br : Nat} {A : Option Addr} {cap bq : Nat} {A' : Option Addr} {cap' gv gn gm : Nat} {r r2 : Rep} {o : Out} {e : Ending} {wa wb : Nat}
    (hst : TlSt w.heap.size W br A cap bq A' cap' gv gn gm r) (harg : TlArg w W l vl ms vm) (hza : W.heap[wa]? = some zOut) (hzb : W.heap[wb]? = some zOut) (hab : wa ≠ wb) (hBa : w.heap.size ≤ wa) (haft : After W br A r2 o e w2) :
    ∃ A1 c1 rA rc sA sc, e = .returned (outVal o (.slice rA o.recs.length rc) (.slice sA o.send.length sc)) ∧ w2.heap[wa]? = some zOut ∧
      MidSt w.heap.size W (w2.setRow wa (outArr o (.slice rA o.recs.length rc) (.slice sA o.send.length sc))) br A1 c1 bq A' cap' gv gn gm r r2 o (.slice rA o.recs.length rc) (.slice sA o.send.length sc) ∧
      TlArg w (w2.setRow wa (outArr o (.slice rA o.recs.length rc) (.slice sA o.send.length sc))) l vl ms vm ∧
      (w2.setRow wa (outArr o (.slice rA o.recs.length rc) (.slice sA o.send.length sc))).heap[wa]? = some (.cells (outArr o (.slice rA o.recs.length rc) (.slice sA o.send.length sc)) 45) ∧
      (w2.setRow wa (outArr o (.slice rA o.recs.length rc) (.slice sA o.send.length sc))).heap[wb]? = some zOut := by
  obtain ⟨A1, c1, rv, sv, rfl, hmid, hf1⟩ := hst.mid haft
  obtain ⟨rA, rc, rfl⟩ := own_form hmid.out.recs
  obtain ⟨sA, sc, rfl⟩ := msgs_form hmid.out.send
  have n45 : ∀ {k}, W.heap[k]? = some zOut → ¬ RepS br A k := fun hk => (hst.kind (T := 45) ⟨_, _, hk⟩ ⟨by decide, by decide, by decide, by decide, by decide⟩).1
  have ha2 := (hf1.block wa (lt_blk hza) (n45 hza)).trans hza
  have hb2 := (hf1.block wb (lt_blk hzb) (n45 hzb)).trans hzb
  refine ⟨A1, c1, rA, rc, sA, sc, rfl, ha2, hmid.fr (fr_setRow _ _ _) (fun k e => e ▸ ⟨_, _, ha2⟩), (harg.fr hf1 (fun k q => hst.lowR k q)).fr (fr_setRow _ _ _) (fun k e => by have e : k = wa := e; omega), setRow_heap _ _ _ _ _ _ ha2, (setRow_other _ _ _ _ (fun e => hab e.symm)).trans hb2⟩
/-- Then the reference's. -/
theorem tlB {w W0 W w2 : World} {l : List M.Op} {vl : Value} {ms : List (Msg × Value)} {vm : Value} {br : Nat} {A : Option Addr} {cap bq : Nat} {A' : Option Addr} {cap' gv gn gm : Nat} {r r2 : Rep} {o : Out} {rv sv : Value} {e : Ending} {wa wb : Nat}
    (hmid : MidSt w.heap.size W0 W br A cap bq A' cap' gv gn gm r r2 o rv sv) (hl : M.Lt1 r2) (hW0 : w.heap.size ≤ W0.heap.size) (harg : TlArg w W l vl ms vm) (hza : W.heap[wa]? = some (.cells (outArr o rv sv) 45)) (hzb : W.heap[wb]? = some zOut) (hab : wa ≠ wb) (hBb : w.heap.size ≤ wb) (haft : AfterQ W bq A' gv gn gm r2 o e w2) :
    ∃ A2 c2 gv2 gn2 gm2 rA rc sA sc, e = .returned (outVal o (.slice rA o.recs.length rc) (.slice sA o.send.length sc)) ∧ w2.heap[wb]? = some zOut ∧
      TlSt w.heap.size (w2.setRow wb (outArr o (.slice rA o.recs.length rc) (.slice sA o.send.length sc))) br A cap bq A2 c2 gv2 gn2 gm2 r2 ∧
      TlArg w (w2.setRow wb (outArr o (.slice rA o.recs.length rc) (.slice sA o.send.length sc))) l vl ms vm ∧
      (w2.setRow wb (outArr o (.slice rA o.recs.length rc) (.slice sA o.send.length sc))).heap[wa]? = some (.cells (outArr o rv sv) 45) ∧
      (w2.setRow wb (outArr o (.slice rA o.recs.length rc) (.slice sA o.send.length sc))).heap[wb]? = some (.cells (outArr o (.slice rA o.recs.length rc) (.slice sA o.send.length sc)) 45) ∧
      OutOk (w2.setRow wb (outArr o (.slice rA o.recs.length rc) (.slice sA o.send.length sc))) w.heap.size o rv sv ∧ OutOk (w2.setRow wb (outArr o (.slice rA o.recs.length rc) (.slice sA o.send.length sc))) w.heap.size o (.slice rA o.recs.length rc) (.slice sA o.send.length sc) := by
  have n45 : ∀ {k o}, W.heap[k]? = some (.cells o 45) → ¬ QS bq A' gv gn gm k := fun hk q => hmid.ref.not45 q (T := 45) ⟨by decide, by decide, by decide, by decide⟩ ⟨_, _, hk⟩
  obtain ⟨A2, c2, gv2, gn2, gm2, rw, sw, rfl, hst, ho1, ho2, hf⟩ := hmid.fin hl haft
  obtain ⟨rA, rc, rfl⟩ := own_form ho2.recs
  obtain ⟨sA, sc, rfl⟩ := msgs_form ho2.send
  have ha2 := (hf.block wa (lt_blk hza) (n45 hza)).trans hza
  have hb2 := (hf.block wb (lt_blk hzb) (n45 hzb)).trans hzb
  have hsz := hmid.size
  have hok : ∀ {base : Nat} {rv sv : Value}, OutOk w2 base o rv sv → w.heap.size ≤ base → OutOk (w2.setRow wb (outArr o (.slice rA o.recs.length rc) (.slice sA o.send.length sc))) w.heap.size o rv sv := fun h hb => by
    have h1 := h.fr (fr_setRow w2 wb (outArr o (.slice rA o.recs.length rc) (.slice sA o.send.length sc))) (by
      rintro k _ (q | q) e
      · exact q.ne ⟨_, _, hb2⟩ (by decide) e
      · exact q.ne ⟨_, _, hb2⟩ (by decide) e)
    exact ⟨own_mono h1.recs hb, h1.send.mono hb⟩
  exact ⟨A2, c2, gv2, gn2, gm2, rA, rc, sA, sc, rfl, hb2, hst.fr (fr_setRow _ _ _) (fun k e => e ▸ hst.kind (T := 45) ⟨_, _, hb2⟩ ⟨by decide, by decide, by decide, by decide, by decide⟩), (harg.fr hf (fun k q => hmid.lowQ k q)).fr (fr_setRow _ _ _) (fun k e => by have e : k = wb := e; omega), (setRow_other _ _ _ _ hab).trans ha2, setRow_heap _ _ _ _ _ _ hb2, hok ho1 hW0, hok ho2 (by omega)⟩

/-- What the comparison at the end of a round reads. -/
def TlS (wc w' : World) (a bq : Nat) (r : Rep) (A' : Option Addr) (cap' : Nat) (o : Out) (raA : Option Addr) (rac : Nat) (saA : Option Addr) (sac : Nat) (rbA : Option Addr) (rbc : Nat) (sbA : Option Addr) (sbc : Nat) : Prop :=
  Below wc.heap.size wc w' ∧ w'.cell? ⟨a, 0, none⟩ = some (.bool o.save) ∧ w'.cell? ⟨a, 1, none⟩ = some (.int .i64 o.hard.term) ∧ w'.cell? ⟨a, 2, none⟩ = some (.int .i64 o.hard.vote) ∧ w'.cell? ⟨a, 3, none⟩ = some (.int .i64 o.fr) ∧
  w'.cell? ⟨a, 4, none⟩ = some (.slice raA o.recs.length rac) ∧ w'.cell? ⟨a, 5, none⟩ = some (.slice saA o.send.length sac) ∧
  w'.cell? ⟨a + 1, 0, none⟩ = some (.bool o.save) ∧ w'.cell? ⟨a + 1, 1, none⟩ = some (.int .i64 o.hard.term) ∧ w'.cell? ⟨a + 1, 2, none⟩ = some (.int .i64 o.hard.vote) ∧ w'.cell? ⟨a + 1, 3, none⟩ = some (.int .i64 o.fr) ∧
  w'.cell? ⟨a + 1, 4, none⟩ = some (.slice rbA o.recs.length rbc) ∧ w'.cell? ⟨a + 1, 5, none⟩ = some (.slice sbA o.send.length sbc) ∧
  w'.cell? ⟨bq, 1, none⟩ = some (.int .i64 r.hard.term) ∧ w'.cell? ⟨bq, 2, none⟩ = some (.int .i64 r.hard.vote) ∧ w'.cell? ⟨bq, 3, none⟩ = some (.slice A' r.log.length cap') ∧ w'.cell? ⟨bq, 4, none⟩ = some (.int .i64 r.role) ∧ w'.cell? ⟨bq, 5, none⟩ = some (.int .i64 r.commit)

set_option maxRecDepth 10000 in
set_option maxHeartbeats 3200000 in
theorem tells_calls {w : World} (id : Int) (h : Hard) (log : List Rec) (l : List M.Op) (ms : List (Msg × Value)) (vlog vl vm : Value) (hslog : Sl w (fun _ => True) 2 vlog log.length (recsCells log)) (hsl : Sl w (fun _ => True) 4 vl l.length (opsCells l)) (hd : ∀ o ∈ l, o.data.size ≤ 9223372036854775807)
    (hsm : Sl w (fun _ => True) 9 vm ms.length (msgsCells ms)) (hsr : ∀ p ∈ ms, Sl w (fun _ => True) 2 p.2 p.1.recs.length (recsCells p.1.recs)) :
    Calls Try.prog 5 #[.int .i64 id, .agg #[.int .i64 h.term, .int .i64 h.vote], vlog, vl, vm] w fun e w' => e = .returned (.bool true) ∧ Below w.heap.size w w' := by
  obtain ⟨gA, gc, rfl⟩ := Sl.form hslog
  obtain ⟨lA, lc, rfl⟩ := Sl.form hsl
  obtain ⟨mA, mc, rfl⟩ := Sl.form hsm
  have hlen := hsl.2.1
  have hmlen := hsm.2.1
  have hglen := hslog.2.1
  have HARG : Hid (TlArg w w l (.slice lA l.length lc) ms (.slice mA ms.length mc)) := ⟨hsl.mono (fun b q _ => q), hsm.mono (fun b q _ => q), fun p hp => (hsr p hp).mono (fun b q _ => q), Below.refl _ _⟩
  have HLOG := Lib.hid hslog
  have HD := Lib.hid hd
  clear hslog hsl hsm hsr hd
  go_enter Try.func5, Try.ntmps5
  go_upto_region 2 with (go_at_call 8; refine (small_calls _).mono ?_; rintro e w1 ⟨rfl, hb1⟩)
  have hB1 : Below w.heap.size w w1 := ((Below.refl w.heap.size w).alloc (Nat.le_refl _) _).trans (hb1.mono (by simp))
  have hbx : w1.heap[w.heap.size]? = some (.cells [.int .i64 h.term, .int .i64 h.vote].toArray 40) := (hb1.block _ (by simp)).trans (heap_alloc_new w _)
  have hF1 : Fr (fun k => w.heap.size ≤ k) w w1 := (Fr.of_below hB1)
  have HA1 := Lib.hid (HARG.out.fr hF1 (fun k q => q))
  have HL1 := Lib.hid (HLOG.out.below hB1 (Nat.le_refl _))
  have HBX := Lib.hid hbx
  have hlx := lt_blk hbx
  clear hB1 hbx hF1 hb1
  go_cut [42] (fun v1 wx => ∃ q : Bool, v1 = .bool q ∧ w1 = wx)
  case first =>
    go_wp2_with (first | (go_at_call 10; refine (few_calls l _ 60 HA1.out.ops HD.out).mono ?_; rintro e w' ⟨rfl, rfl⟩) | (go_at_call 20; refine (short_calls log _ HL1.out).mono ?_; rintro e w' ⟨rfl, rfl⟩))
    all_goals go_meet
    all_goals exact ⟨_, rfl, rfl⟩
  case rest =>
  obtain ⟨q, rfl, hwx⟩ := hcut
  subst hwx
  cases q
  · have x0 := cell_blk HBX.out 0
    have x1 := cell_blk HBX.out 1
    simp only [List.getElem?_cons_succ, List.getElem?_cons_zero] at x0 x1
    go_wp2_with fail
    refine (new_calls (ok := fun _ => True) id h log _ HL1.out).mono ?_
    rintro e w2 (⟨q1, rfl, hb2⟩ | ⟨r, br, A, cap, q1, rfl, q2, hR, hAl, hb2⟩)
    · have x0' := (hb2.cell (p := ⟨w.heap.size, 0, none⟩) hlx).trans x0
      have x1' := (hb2.cell (p := ⟨w.heap.size, 1, none⟩) hlx).trans x1
      have hlx2 : w.heap.size < w2.heap.size := Nat.lt_of_lt_of_le hlx hb2.size
      have HL2 := Lib.hid (HL1.out.below hb2 (Nat.le_refl _))
      have HQ1 := Lib.hid q1
      have HB2 : Hid (Below w.heap.size w w2) := HA1.out.bel.trans (hb2.mono HA1.out.bel.size)
      clear hb2 q1
      go_wp2_with fail
      refine (qnew_calls (ok := fun _ => True) id h log _ HL2.out).mono ?_
      rintro e w3 (⟨q3, rfl, hb3⟩ | ⟨r3, b3, A3, cap3, gv3, gn3, gm3, q3, _⟩)
      · have HB3 : Hid (Below w.heap.size w w3) := HB2.out.trans (hb3.mono HB2.out.size)
        clear hb3 q3
        go_wp2_with fail
        refine wp_loop_rounds 1 ?_
        rw [rounds_succ]
        go_wp2_with fail
        all_goals
          go_ret
          exact ⟨rfl, HB3.out⟩
      · exact absurd (HQ1.out.symm.trans q3) (by simp)
    · have x0' := (hb2.cell (p := ⟨w.heap.size, 0, none⟩) hlx).trans x0
      have x1' := (hb2.cell (p := ⟨w.heap.size, 1, none⟩) hlx).trans x1
      have hlx2 : w.heap.size < w2.heap.size := Nat.lt_of_lt_of_le hlx hb2.size
      have HL2 := Lib.hid (HL1.out.below hb2 (Nat.le_refl _))
      have HQ1 := Lib.hid q1
      have HB2 : Hid (Below w.heap.size w w2) := HA1.out.bel.trans (hb2.mono HA1.out.bel.size)
      have hws := HA1.out.bel.size
      have HLR : Hid (∀ k, RepS br A k → w.heap.size ≤ k) := by
        rintro k (rfl | ⟨ad, e, rfl⟩)
        · omega
        · have := hAl ad e; omega
      have HR := Lib.hid hR
      clear hb2 q1 hR hAl
      go_wp2_with fail
      refine (qnew_calls (ok := fun _ => True) id h log _ HL2.out).mono ?_
      rintro e w3 (⟨q3, rfl, hb3⟩ | ⟨r3, bq, A3, cap3, gv3, gn3, gm3, q3, rfl, hQ, hQl, hb3⟩)
      · exact absurd (HQ1.out.symm.trans q3) (by simp)
      · obtain rfl : r = r3 := Option.some.inj (HQ1.out.symm.trans q3)
        have hw2 := HB2.out.size
        have HST : Hid (TlSt w.heap.size w3 br A cap bq A3 cap3 gv3 gn3 gm3 r) :=
          { rep := HR.out.below hb3 (Nat.le_refl _)
            ref := hQ
            sep := fun k q q' => by have := HR.out.ltS q; have := hQl k q'; omega
            lowR := HLR.out
            lowQ := fun k q => by have := hQl k q; omega
            lt1 := M.lt1_new HQ1.out }
        have HA3 := Lib.hid (HARG.out.fr (S := fun k => w.heap.size ≤ k) (Fr.of_below (HB2.out.trans (hb3.mono hw2))) (fun k q => q))
        clear hb3 hQ hQl q3 HLR HR HB2 HL2 HL1 HA1 HBX x0 x1 x0' x1' hlx hlx2 HQ1
        go_wp2_with fail
        go_loopw [14] (fun iv wr => ∃ (i : Nat) (r : Rep) (A : Option Addr) (cap : Nat) (A' : Option Addr) (cap' gv gn gm : Nat), i ≤ l.length ∧ iv = .int .i64 i ∧ TlSt w.heap.size wr br A cap bq A' cap' gv gn gm r ∧ TlArg w wr l (.slice lA l.length lc) ms (.slice mA ms.length mc)) (fun iv _ => l.length - (intOf iv).toNat)
        case atStart => exact ⟨0, r, A, cap, A3, cap3, gv3, gn3, gm3, Nat.zero_le _, rfl, HST.out, HA3.out⟩
        case round =>
          clear HST HA3
          obtain ⟨i, r, A, cap, A', cap', gv, gn, gm, hi, rfl, hst, harg⟩ := hrel
          by_cases hlt : i < l.length
          · obtain ⟨_, _, A1, c1, hA, hcap, hc63, h6⟩ := harg.ops
            cases hA
            rcases h6 with h6 | ⟨b, off, rfl, hbo, hb, hc⟩
            · omega
            have hc0 := hc _ _ (opsCells_at l i hlt).1
            have hc3 := hc _ _ (opsCells_at l i hlt).2.2.2
            rw [← Nat.add_assoc] at hc3
            have hltI : (i : Int) < (l.length : Int) := by omega
            have hld := HD.out l[i] (List.getElem_mem hlt)
            generalize l[i] = op at hc0 hc3 hld
            have HST := Lib.hid hst
            have HAR := Lib.hid harg
            clear hst harg hc
            go_upto_block 2 with fail
            have HOC : Hid (∀ W', Below w.heap.size w W' → W'.cell? ⟨b, off + i * 4 + 3, none⟩ = some (.string op.data)) := fun W' hW' => (hW'.cell (p := ⟨b, off + i * 4 + 3, none⟩) hbo).trans ((HAR.out.bel.cell (p := ⟨b, off + i * 4 + 3, none⟩) hbo).symm.trans hc3)
            generalize bits BinOp.and IntKind.i64 op.what 15 = K
            have hB1r : Below wr.heap.size wr ((wr.alloc zOut).alloc zOut) := ((Below.refl _ wr).alloc (Nat.le_refl _) _).alloc (by simp) _
            have hwwr := HAR.out.bel.size
            refine wp_world (fun W => TlSt w.heap.size W br A cap bq A' cap' gv gn gm r ∧ TlArg w W l (.slice (some ⟨b, off, none⟩) l.length lc) ms (.slice mA ms.length mc) ∧ W.heap[wr.heap.size]? = some zOut ∧ W.heap[wr.heap.size + 1]? = some zOut)
              ⟨HST.out.below hB1r, HAR.out.fr (S := fun k => wr.heap.size ≤ k) ((Fr.of_below hB1r)) (fun k q => by omega), (Below.heap_alloc _ _ _ (by simp)).trans (heap_alloc_new wr _), heap_alloc2_new wr _ _⟩ ?_
            clear hB1r hc0 hc3 hb HST HAR
            rintro W ⟨hst, harg, hza, hzb⟩
            have hoc := HOC.out W harg.bel
            have hbW := World.block_lt_of_cell? W _ hoc
            have hra := hst.rep.lt
            have hrb := hst.ref.lt
            have hla := lt_blk hza
            have hlb := lt_blk hzb
            have HST := Lib.hid hst
            have HAR := Lib.hid harg
            have HZA := Lib.hid hza
            have HZB := Lib.hid hzb
            clear hst harg hza hzb
            go_cut [4] (fun v4 wx => v4 = .slice mA ms.length mc ∧ ∃ (r2 : Rep) (A : Option Addr) (cap : Nat) (A' : Option Addr) (cap' gv gn gm : Nat) (o : Out) (ra sa rb sb : Value), TlSt w.heap.size wx br A cap bq A' cap' gv gn gm r2 ∧ TlArg w wx l (.slice (some ⟨b, off, none⟩) l.length lc) ms (.slice mA ms.length mc) ∧
              wx.heap[wr.heap.size]? = some (.cells [.bool o.save, .int .i64 o.hard.term, .int .i64 o.hard.vote, .int .i64 o.fr, ra, sa].toArray 45) ∧ wx.heap[wr.heap.size + 1]? = some (.cells [.bool o.save, .int .i64 o.hard.term, .int .i64 o.hard.vote, .int .i64 o.fr, rb, sb].toArray 45) ∧
              OutOk wx w.heap.size o ra sa ∧ OutOk wx w.heap.size o rb sb ∧ o.send.length ≤ 2)
            case first =>
              by_cases hk10 : K < 10 ∧ i < ms.length
              · have hK : K < 10 := hk10.1
                have hims : i < ms.length := hk10.2
                have himsI : (i : Int) < (ms.length : Int) := by omega
                clear hk10
                obtain ⟨_, _, mA', mc', hmA, hmcap, _, h7 | ⟨g, mo, hmAe, hgo, hgW, hmc⟩⟩ := HAR.out.msgs
                · omega
                cases hmA
                have hat := fun j (hj : j < 9) => msgsCells_at ms i hims j hj
                have hrc := HAR.out.recs ms[i] (List.getElem_mem hims)
                have hrcl : ms[i].1.recs.length ≤ 9223372036854775807 := hrc.2.1
                have hrec : ∀ W' vl' vm', TlArg w W' l vl' ms vm' → Sl W' (· < w.heap.size) 2 ms[i].2 ms[i].1.recs.length (recsCells ms[i].1.recs) := fun W' _ _ h => h.recs _ (List.getElem_mem hims)
                generalize ms[i].1 = m at hat hrc hrcl hrec
                generalize ms[i].2 = mv at hat hrc hrec
                obtain ⟨vA, vc, rfl⟩ := Sl.form hrc
                have HMC : Hid (∀ W', Below w.heap.size w W' → ∀ j u, j < 9 → (msgCells m (.slice vA m.recs.length vc))[j]? = some u → W'.cell? ⟨g, mo + i * 9 + j, none⟩ = some u) := fun W' hW' j u hj hu => by
                  have h1 := hmc (i * 9 + j) u ((hat j hj).trans hu)
                  rw [← Nat.add_assoc] at h1
                  exact (hW'.cell (p := ⟨g, mo + i * 9 + j, none⟩) hgo).trans ((HAR.out.bel.cell (p := ⟨g, mo + i * 9 + j, none⟩) hgo).symm.trans h1)
                have HRC := Lib.hid hrc
                have HREC := Lib.hid hrec
                clear hat hmc hrc hrec
                have e8 := HMC.out W HAR.out.bel 8 _ (by omega) rfl
                rw [hmAe]
                have HME := Lib.hid hmAe
                clear hmAe
                go_upto_region 21 with fail
                go_cut [133] (fun v1 wx => ∃ q : Bool, v1 = .bool q ∧ W = wx)
                case first =>
                  go_wp2_with (go_at_call 20; refine (short_calls m.recs _ HRC.out).mono ?_; rintro e w' ⟨rfl, rfl⟩)
                  all_goals go_meet
                  all_goals exact ⟨_, rfl, rfl⟩
                case rest =>
                obtain ⟨q, rfl, hwx⟩ := hcut
                subst hwx
                cases q
                · have e0 := HMC.out W HAR.out.bel 0 _ (by omega) rfl
                  have e1 := HMC.out W HAR.out.bel 1 _ (by omega) rfl
                  have e2 := HMC.out W HAR.out.bel 2 _ (by omega) rfl
                  have e3 := HMC.out W HAR.out.bel 3 _ (by omega) rfl
                  have e4 := HMC.out W HAR.out.bel 4 _ (by omega) rfl
                  have e5 := HMC.out W HAR.out.bel 5 _ (by omega) rfl
                  have e6 := HMC.out W HAR.out.bel 6 _ (by omega) rfl
                  have e7 := HMC.out W HAR.out.bel 7 _ (by omega) rfl
                  simp only [Nat.add_zero] at e0
                  have hgw : g < w.heap.size := hgo
                  go_wp2_with fail
                  show Calls Try.prog 23 #[_, msgVal m (.slice vA m.recs.length vc)] _ _
                  refine (hear_calls HST.out.rep m _ (HRC.out.mono (fun q _ hq e => by have h1 : q < w.heap.size := hq; have h2 := HST.out.lowR q (.inl e); omega))).mono ?_
                  rintro e w2 haft
                  obtain ⟨A1, c1, rA, rc, sA, sc, rfl, hz2, hmid, harg2, ha2, hb2⟩ := tlA HST.out HAR.out HZA.out HZB.out (by omega) hwwr haft
                  have HZ2 := Lib.hid hz2
                  have HMID := Lib.hid hmid
                  have HARG2 := Lib.hid harg2
                  have HA2 := Lib.hid ha2
                  have HB2 := Lib.hid hb2
                  clear hz2 hmid harg2 ha2 hb2 haft
                  have f0 := HMC.out _ HARG2.out.bel 0 _ (by omega) rfl
                  have f1 := HMC.out _ HARG2.out.bel 1 _ (by omega) rfl
                  have f2 := HMC.out _ HARG2.out.bel 2 _ (by omega) rfl
                  have f3 := HMC.out _ HARG2.out.bel 3 _ (by omega) rfl
                  have f4 := HMC.out _ HARG2.out.bel 4 _ (by omega) rfl
                  have f5 := HMC.out _ HARG2.out.bel 5 _ (by omega) rfl
                  have f6 := HMC.out _ HARG2.out.bel 6 _ (by omega) rfl
                  have f7 := HMC.out _ HARG2.out.bel 7 _ (by omega) rfl
                  have f8 := HMC.out _ HARG2.out.bel 8 _ (by omega) rfl
                  unfold outArr at f0 f1 f2 f3 f4 f5 f6 f7 f8
                  simp only [Nat.add_zero] at f0
                  have hgw2 : g < (w2.setRow wr.heap.size (outArr (M.hear r m).2 (.slice rA (M.hear r m).2.recs.length rc) (.slice sA (M.hear r m).2.send.length sc))).heap.size := Nat.lt_of_lt_of_le hgw HARG2.out.bel.size
                  unfold outArr at hgw2
                  unfold outVal
                  go_wp2_with (refine wpList_store_list rfl 45 (.tmp 15) (.tmp 140) rfl wr.heap.size _ rfl rfl 45 _ HZ2.out 6 size45 rfl rfl rfl ?_)
                  show Calls Try.prog 24 #[_, msgVal m (.slice vA m.recs.length vc)] _ _
                  refine (qhear_calls HMID.out.ref m _ ((HREC.out _ _ _ HARG2.out).mono (fun q _ hq e => by have h1 : q < w.heap.size := hq; have h2 := HMID.out.lowQ q e; omega))).mono ?_
                  rintro e w4 haft
                  obtain ⟨A2, c2, gv2, gn2, gm2, rB, rd, sB, sd, rfl, hz3, hst3, harg3, ha3, hb3, hoa, hob⟩ := tlB HMID.out (M.lt1_hear m HST.out.lt1) (Nat.le_trans hwwr (Nat.le_of_lt (Nat.lt_trans (Nat.lt_succ_self _) hlb))) HARG2.out HA2.out HB2.out (by omega) (by omega) haft
                  have HZ3 := Lib.hid hz3
                  have HEND : Hid (_ ∧ _ ∧ _ ∧ _ ∧ _ ∧ _ ∧ _) := ⟨hst3, harg3, ha3, hb3, hoa, hob, M.hear_send r m⟩
                  clear hz3 hst3 harg3 ha3 hb3 hoa hob haft
                  unfold outVal
                  go_wp2_with (refine wpList_store_list rfl 45 (.tmp 16) (.tmp 146) rfl (wr.heap.size + 1) _ rfl rfl 45 _ HZ3.out 6 size45 rfl rfl rfl ?_)
                  go_meet
                  exact ⟨by rw [HME.out], _, _, _, _, _, _, _, _, _, _, _, _, _, HEND.out⟩
                · go_wp2_with fail
                  go_ret
                  exact ⟨rfl, HAR.out.bel⟩
              · by_cases hk12 : K < 12
                · have hg : decide (K < 10) = false ∨ (decide (K < 10) = true ∧ ¬ (i : Int) < (ms.length : Int)) := by
                    by_cases q : K < 10
                    · exact .inr ⟨by simpa using q, fun q2 => hk10 ⟨q, by omega⟩⟩
                    · exact .inl (by simpa using q)
                  clear hk10
                  rcases hg with g1 | ⟨g1, g2⟩
                  all_goals
                    go_wp2_with fail
                    refine (tick_calls HST.out.rep).mono ?_
                    rintro e w2 haft
                    obtain ⟨A1, c1, rA, rc, sA, sc, rfl, hz2, hmid, harg2, ha2, hb2⟩ := tlA HST.out HAR.out HZA.out HZB.out (by omega) hwwr haft
                    have HZ2 := Lib.hid hz2
                    have HMID := Lib.hid hmid
                    have HARG2 := Lib.hid harg2
                    have HA2 := Lib.hid ha2
                    have HB2 := Lib.hid hb2
                    clear hz2 hmid harg2 ha2 hb2 haft
                    unfold outVal
                    go_wp2_with (refine wpList_store_list rfl 45 (.tmp 15) (.tmp 151) rfl wr.heap.size _ rfl rfl 45 _ HZ2.out 6 size45 rfl rfl rfl ?_)
                    refine (qtick_calls HMID.out.ref).mono ?_
                    rintro e w4 haft
                    obtain ⟨A2, c2, gv2, gn2, gm2, rB, rd, sB, sd, rfl, hz3, hst3, harg3, ha3, hb3, hoa, hob⟩ := tlB HMID.out (M.lt1_tick HST.out.rep.wf HST.out.lt1) (Nat.le_trans hwwr (Nat.le_of_lt (Nat.lt_trans (Nat.lt_succ_self _) hlb))) HARG2.out HA2.out HB2.out (by omega) (by omega) haft
                    have HZ3 := Lib.hid hz3
                    have HEND : Hid (_ ∧ _ ∧ _ ∧ _ ∧ _ ∧ _ ∧ _) := ⟨hst3, harg3, ha3, hb3, hoa, hob, M.tick_send r⟩
                    clear hz3 hst3 harg3 ha3 hb3 hoa hob haft
                    unfold outVal
                    go_wp2_with (refine wpList_store_list rfl 45 (.tmp 16) (.tmp 153) rfl (wr.heap.size + 1) _ rfl rfl 45 _ HZ3.out 6 size45 rfl rfl rfl ?_)
                    go_meet
                    exact ⟨rfl, _, _, _, _, _, _, _, _, _, _, _, _, _, HEND.out⟩
                · have hg : decide (K < 10) = false := by simp; omega
                  have hnp : ¬ K < 10 := by omega
                  clear hk10
                  go_wp2_with fail
                  refine (propose_calls HST.out.rep op.data hld (fun h2 => HST.out.lt1 (by rw [h2]; decide))).mono ?_
                  rintro e w2 ⟨Ax, cx, rv, sv, rfl, h1, h2, h3, h4⟩
                  obtain ⟨A1, c1, rv1, sv1, he, hmid, hf1⟩ := HST.out.mid (e := .returned (outVal (M.propose r op.data).2.2.2 rv sv)) ⟨Ax, cx, rv, sv, rfl, h1, h2, h3, h4⟩
                  obtain ⟨rA, rc, hrv⟩ := own_form hmid.out.recs
                  obtain ⟨sA, sc, hsv⟩ := msgs_form hmid.out.send
                  have n45 : ∀ {k}, W.heap[k]? = some zOut → ¬ RepS br A k := fun hk => (HST.out.kind (T := 45) ⟨_, _, hk⟩ ⟨by decide, by decide, by decide, by decide, by decide⟩).1
                  have hza2 := (hf1.block _ hla (n45 HZA.out)).trans HZA.out
                  have hzb2 := (hf1.block _ hlb (n45 HZB.out)).trans HZB.out
                  have harg2 := HAR.out.fr hf1 (fun k q => HST.out.lowR k q)
                  have hev : rv = rv1 ∧ sv = sv1 := by
                    have := he
                    unfold outVal at this
                    simp at this
                    exact this
                  obtain ⟨rfl, rfl⟩ := hev
                  subst hrv hsv
                  have hmid2 := hmid.fr (S := fun _ => False) ((Fr.refl _ w2).alloc (.cells (outArr (M.propose r op.data).2.2.2 (.slice rA (M.propose r op.data).2.2.2.recs.length rc) (.slice sA (M.propose r op.data).2.2.2.send.length sc)) 45)) (fun _ h => h.elim)
                  have HMID := Lib.hid hmid2
                  have hs2 := hf1.size
                  have hoc2 := HOC.out _ ((harg2.fr (S := fun _ => False) ((Fr.refl _ w2).alloc (.cells (outArr (M.propose r op.data).2.2.2 (.slice rA (M.propose r op.data).2.2.2.recs.length rc) (.slice sA (M.propose r op.data).2.2.2.send.length sc)) 45)) (fun _ h => h.elim)).bel)
                  have HARG2 := Lib.hid (harg2.fr (S := fun _ => False) ((Fr.refl _ w2).alloc (.cells (outArr (M.propose r op.data).2.2.2 (.slice rA (M.propose r op.data).2.2.2.recs.length rc) (.slice sA (M.propose r op.data).2.2.2.send.length sc)) 45)) (fun _ h => h.elim))
                  have HZA2 : Hid ((w2.alloc (.cells (outArr (M.propose r op.data).2.2.2 (.slice rA (M.propose r op.data).2.2.2.recs.length rc) (.slice sA (M.propose r op.data).2.2.2.send.length sc)) 45)).heap[wr.heap.size]? = some zOut) := (Below.heap_alloc _ _ _ (by omega)).trans hza2
                  have HZB2 : Hid ((w2.alloc (.cells (outArr (M.propose r op.data).2.2.2 (.slice rA (M.propose r op.data).2.2.2.recs.length rc) (.slice sA (M.propose r op.data).2.2.2.send.length sc)) 45)).heap[wr.heap.size + 1]? = some zOut) := (Below.heap_alloc _ _ _ (by omega)).trans hzb2
                  have hbw2 : b < w2.heap.size := by omega
                  have HSND := Lib.hid (M.propose_send r op.data)
                  have HL2 := Lib.hid (M.lt1_propose op.data HST.out.lt1)
                  generalize hPr : M.propose r op.data = pr at *
                  obtain ⟨r2, pn, pe, o⟩ := pr
                  dsimp only at *
                  unfold outArr at *
                  clear h1 h2 h3 h4 he hmid hf1 hza2 hzb2 harg2 hmid2 n45
                  unfold outVal
                  go_wp2_with fail
                  have hq := qpropose_calls HMID.out.ref op.data hld (fun h2 => HST.out.lt1 (by rw [h2]; decide))
                  rw [hPr] at hq
                  refine hq.mono ?_
                  clear hq
                  dsimp only
                  rintro e w4 ⟨Ay, cy, gvy, gny, gmy, rv, sv, rfl, h1, h2, h3, h4⟩
                  obtain ⟨A2, c2, gv2, gn2, gm2, rv1, sv1, he, hst2, hoa, hob, hf2⟩ := HMID.out.fin HL2.out (e := .returned (outVal o rv sv)) ⟨Ay, cy, gvy, gny, gmy, rv, sv, rfl, h1, h2, h3, h4⟩
                  have hev : rv = rv1 ∧ sv = sv1 := by
                    have := he
                    unfold outVal at this
                    simp at this
                    exact this
                  obtain ⟨rfl, rfl⟩ := hev
                  obtain ⟨rB, rd, hrv⟩ := own_form hob.recs
                  obtain ⟨sB, sd, hsv⟩ := msgs_form hob.send
                  subst hrv hsv
                  have n45 : ∀ {k cs}, (w2.alloc (.cells #[.bool o.save, .int .i64 o.hard.term, .int .i64 o.hard.vote, .int .i64 o.fr, .slice rA o.recs.length rc, .slice sA o.send.length sc] 45)).heap[k]? = some (.cells cs 45) → ¬ QS bq A' gv gn gm k := fun hk q => HMID.out.ref.not45 q (T := 45) ⟨by decide, by decide, by decide, by decide⟩ ⟨_, _, hk⟩
                  have hza4 := (hf2.block _ (lt_blk HZA2.out) (n45 HZA2.out)).trans HZA2.out
                  have hzb4 := (hf2.block _ (lt_blk HZB2.out) (n45 HZB2.out)).trans HZB2.out
                  have hnew := heap_alloc_new w2 (.cells #[.bool o.save, .int .i64 o.hard.term, .int .i64 o.hard.vote, .int .i64 o.fr, .slice rA o.recs.length rc, .slice sA o.send.length sc] 45)
                  have hoa4 : w4.heap[w2.heap.size]? = some (.cells [.bool o.save, .int .i64 o.hard.term, .int .i64 o.hard.vote, .int .i64 o.fr, .slice rA o.recs.length rc, .slice sA o.send.length sc].toArray 45) := (hf2.block _ (lt_blk hnew) (n45 hnew)).trans hnew
                  have harg4 := HARG2.out.fr hf2 (fun k q => HMID.out.lowQ k q)
                  have z0 := cell_blk hoa4 0
                  have z1 := cell_blk hoa4 1
                  have z2 := cell_blk hoa4 2
                  have z3 := cell_blk hoa4 3
                  have z4 := cell_blk hoa4 4
                  have z5 := cell_blk hoa4 5
                  simp only [List.getElem?_cons_succ, List.getElem?_cons_zero] at z0 z1 z2 z3 z4 z5
                  have hlo := lt_blk hoa4
                  have hla4 := lt_blk hza4
                  have hlb4 := lt_blk hzb4
                  have hW2 : w.heap.size ≤ w2.heap.size := by omega
                  have hne1 : w2.heap.size ≠ wr.heap.size := by omega
                  have hne12 : wr.heap.size ≠ wr.heap.size + 1 := by omega
                  have hne2 : w2.heap.size ≠ wr.heap.size + 1 := by omega
                  have HXA : Hid ((w4.alloc (.cells #[.bool o.save, .int .i64 o.hard.term, .int .i64 o.hard.vote, .int .i64 o.fr, .slice rB o.recs.length rd, .slice sB o.send.length sd] 45)).heap[wr.heap.size]? = some zOut) := (Below.heap_alloc _ _ _ hla4).trans hza4
                  have HXB : Hid (((w4.alloc (.cells #[.bool o.save, .int .i64 o.hard.term, .int .i64 o.hard.vote, .int .i64 o.fr, .slice rB o.recs.length rd, .slice sB o.send.length sd] 45)).setRow wr.heap.size #[.bool o.save, .int .i64 o.hard.term, .int .i64 o.hard.vote, .int .i64 o.fr, .slice rA o.recs.length rc, .slice sA o.send.length sc]).heap[wr.heap.size + 1]? = some zOut) := (setRow_other _ _ _ _ (by omega)).trans ((Below.heap_alloc _ _ _ hlb4).trans hzb4)
                  have hF5 : Fr (fun k => k = wr.heap.size ∨ k = wr.heap.size + 1) w4 (((w4.alloc (.cells #[.bool o.save, .int .i64 o.hard.term, .int .i64 o.hard.vote, .int .i64 o.fr, .slice rB o.recs.length rd, .slice sB o.send.length sd] 45)).setRow wr.heap.size #[.bool o.save, .int .i64 o.hard.term, .int .i64 o.hard.vote, .int .i64 o.fr, .slice rA o.recs.length rc, .slice sA o.send.length sc]).setRow (wr.heap.size + 1) #[.bool o.save, .int .i64 o.hard.term, .int .i64 o.hard.vote, .int .i64 o.fr, .slice rB o.recs.length rd, .slice sB o.send.length sd]) := (((Fr.refl _ w4).alloc _).setRow (.inl (.inl rfl)) _).setRow (.inl (.inr rfl)) _
                  have hk45 : ∀ k, (k = wr.heap.size ∨ k = wr.heap.size + 1) → Kind w4 k 45 := by
                    rintro k (rfl | rfl)
                    · exact ⟨_, _, hza4⟩
                    · exact ⟨_, _, hzb4⟩
                  have hok5 : ∀ {base : Nat} {rv sv : Value}, OutOk w4 base o rv sv → w.heap.size ≤ base → OutOk _ w.heap.size o rv sv := fun h hb => by
                    have h1 := h.fr hF5 (by
                      rintro k _ (q | q) e
                      · exact q.ne (hk45 k e) (by decide) rfl
                      · exact q.ne (hk45 k e) (by decide) rfl)
                    exact (⟨own_mono h1.recs hb, h1.send.mono hb⟩ : OutOk _ w.heap.size o _ _)
                  have hob5 : ((w4.alloc (.cells #[.bool o.save, .int .i64 o.hard.term, .int .i64 o.hard.vote, .int .i64 o.fr, .slice rB o.recs.length rd, .slice sB o.send.length sd] 45)).setRow wr.heap.size #[.bool o.save, .int .i64 o.hard.term, .int .i64 o.hard.vote, .int .i64 o.fr, .slice rA o.recs.length rc, .slice sA o.send.length sc]).heap[w4.heap.size]? = some (.cells (List.toArray [.bool o.save, .int .i64 o.hard.term, .int .i64 o.hard.vote, .int .i64 o.fr, .slice rB o.recs.length rd, .slice sB o.send.length sd]) 45) := (setRow_other _ _ _ _ (by omega)).trans (heap_alloc_new w4 _)
                  have y0 := cell_blk hob5 0
                  have y1 := cell_blk hob5 1
                  have y2 := cell_blk hob5 2
                  have y3 := cell_blk hob5 3
                  have y4 := cell_blk hob5 4
                  have y5 := cell_blk hob5 5
                  simp only [List.getElem?_cons_succ, List.getElem?_cons_zero] at y0 y1 y2 y3 y4 y5
                  have heA : (((w4.alloc (.cells #[.bool o.save, .int .i64 o.hard.term, .int .i64 o.hard.vote, .int .i64 o.fr, .slice rB o.recs.length rd, .slice sB o.send.length sd] 45)).setRow wr.heap.size #[.bool o.save, .int .i64 o.hard.term, .int .i64 o.hard.vote, .int .i64 o.fr, .slice rA o.recs.length rc, .slice sA o.send.length sc]).setRow (wr.heap.size + 1) #[.bool o.save, .int .i64 o.hard.term, .int .i64 o.hard.vote, .int .i64 o.fr, .slice rB o.recs.length rd, .slice sB o.send.length sd]).heap[wr.heap.size]? = some (.cells (List.toArray [.bool o.save, .int .i64 o.hard.term, .int .i64 o.hard.vote, .int .i64 o.fr, .slice rA o.recs.length rc, .slice sA o.send.length sc]) 45) := (setRow_other _ _ _ _ hne12).trans (setRow_heap _ _ _ _ _ _ HXA.out)
                  have heB : (((w4.alloc (.cells #[.bool o.save, .int .i64 o.hard.term, .int .i64 o.hard.vote, .int .i64 o.fr, .slice rB o.recs.length rd, .slice sB o.send.length sd] 45)).setRow wr.heap.size #[.bool o.save, .int .i64 o.hard.term, .int .i64 o.hard.vote, .int .i64 o.fr, .slice rA o.recs.length rc, .slice sA o.send.length sc]).setRow (wr.heap.size + 1) #[.bool o.save, .int .i64 o.hard.term, .int .i64 o.hard.vote, .int .i64 o.fr, .slice rB o.recs.length rd, .slice sB o.send.length sd]).heap[wr.heap.size + 1]? = some (.cells (List.toArray [.bool o.save, .int .i64 o.hard.term, .int .i64 o.hard.vote, .int .i64 o.fr, .slice rB o.recs.length rd, .slice sB o.send.length sd]) 45) := setRow_heap _ _ _ _ _ _ HXB.out
                  have hlb0 : w.heap.size ≤ W.heap.size := by have := HST.out.lowR br (.inl rfl); omega
                  have hst6 := hst2.fr hF5 (fun k e => hst2.kind (hk45 k e) ⟨by decide, by decide, by decide, by decide, by decide⟩)
                  have harg6 := harg4.fr hF5 (fun k e => by omega)
                  have hoa6 := hok5 hoa hlb0
                  have hob6 := hok5 hob (by simp; omega)
                  have HEND := Lib.hid (And.intro hst6 (And.intro harg6 (And.intro heA (And.intro heB (And.intro hoa6 (And.intro hob6 HSND.out))))))
                  clear hob5 heA heB hst6 harg6 hoa6 hob6 h1 h2 h3 h4 he hst2 hoa hob hf2 n45 hza4 hzb4 hnew hoa4 harg4 hF5 hk45 hok5
                  unfold outVal
                  go_wp2_with (first | refine wpList_store_list rfl 45 (.tmp 15) (.tmp 107) rfl wr.heap.size _ rfl rfl 45 _ HXA.out 6 size45 rfl rfl rfl ?_ | refine wpList_store_list rfl 45 (.tmp 16) (.tmp 108) rfl (wr.heap.size + 1) _ rfl rfl 45 _ HXB.out 6 size45 rfl rfl rfl ?_)
                  go_meet
                  exact ⟨rfl, _, _, _, _, _, _, _, _, _, _, _, _, _, HEND.out⟩
            case rest =>
              clear HST HAR HZA HZB hoc hbW hra hrb hla hlb HOC hbo
              obtain ⟨rfl, r2, A, cap, A', cap', gv, gn, gm, o, ra, sa, rb, sb, hst, harg, hza, hzb, hoa, hob, hsd⟩ := hcut
              obtain ⟨raA, rac, rfl⟩ := own_form hoa.recs
              obtain ⟨saA, sac, rfl⟩ := msgs_form hoa.send
              obtain ⟨rbA, rbc, rfl⟩ := own_form hob.recs
              obtain ⟨sbA, sbc, rfl⟩ := msgs_form hob.send
              have hrep := hst.rep
              have HREP : Hid (∀ w', Below wc.heap.size wc w' → RepOk w' br r2 A cap) := fun w' hb => hst.rep.below hb (Nat.le_refl _)
              have HREF : Hid (∀ w', Below wc.heap.size wc w' → QOk w' bq r2 A' cap' gv gn gm) := fun w' hb => hst.ref.below hb (Nat.le_refl _)
              have HOA : Hid (∀ w', Below wc.heap.size wc w' → OutOk w' w.heap.size o (.slice raA o.recs.length rac) (.slice saA o.send.length sac)) := fun w' hb => hoa.fr (S := fun _ => False) (Fr.of_below hb) (fun _ _ _ h => h)
              have HOB : Hid (∀ w', Below wc.heap.size wc w' → OutOk w' w.heap.size o (.slice rbA o.recs.length rbc) (.slice sbA o.send.length sbc)) := fun w' hb => hob.fr (S := fun _ => False) (Fr.of_below hb) (fun _ _ _ h => h)
              have HCA : Hid (∀ w', Below wc.heap.size wc w' → w'.heap[wr.heap.size]? = some (.cells [.bool o.save, .int .i64 o.hard.term, .int .i64 o.hard.vote, .int .i64 o.fr, .slice raA o.recs.length rac, .slice saA o.send.length sac].toArray 45)) := fun w' hb => (hb.block _ (lt_blk hza)).trans hza
              have HCB : Hid (∀ w', Below wc.heap.size wc w' → w'.heap[wr.heap.size + 1]? = some (.cells [.bool o.save, .int .i64 o.hard.term, .int .i64 o.hard.vote, .int .i64 o.fr, .slice rbA o.recs.length rbc, .slice sbA o.send.length sbc].toArray 45)) := fun w' hb => (hb.block _ (lt_blk hzb)).trans hzb
              have HSS : Hid (∀ w', Below wc.heap.size wc w' → TlS wc w' wr.heap.size bq r2 A' cap' o raA rac saA sac rbA rbc sbA sbc) := fun w' hb =>
                ⟨hb, cell_blk (HCA.out w' hb) 0, cell_blk (HCA.out w' hb) 1, cell_blk (HCA.out w' hb) 2, cell_blk (HCA.out w' hb) 3, cell_blk (HCA.out w' hb) 4, cell_blk (HCA.out w' hb) 5,
                 cell_blk (HCB.out w' hb) 0, cell_blk (HCB.out w' hb) 1, cell_blk (HCB.out w' hb) 2, cell_blk (HCB.out w' hb) 3, cell_blk (HCB.out w' hb) 4, cell_blk (HCB.out w' hb) 5,
                 (HREF.out w' hb).cells.2.1, (HREF.out w' hb).cells.2.2.1, (HREF.out w' hb).cells.2.2.2.1, (HREF.out w' hb).cells.2.2.2.2.1, (HREF.out w' hb).cells.2.2.2.2.2.1⟩
              have HST := Lib.hid hst
              have HAR := Lib.hid harg
              have hl4 := hst.rep.wf.len
              clear hst harg hza hzb hoa hob hrep HCA HCB
              go_upto_region 28 with fail
              go_region_held3 (fun w' => Below wc.heap.size wc w' ∧ w'.cell? ⟨wr.heap.size, 0, none⟩ = some (.bool o.save) ∧ w'.cell? ⟨wr.heap.size, 1, none⟩ = some (.int .i64 o.hard.term) ∧ w'.cell? ⟨wr.heap.size, 2, none⟩ = some (.int .i64 o.hard.vote) ∧ w'.cell? ⟨wr.heap.size, 3, none⟩ = some (.int .i64 o.fr) ∧   w'.cell? ⟨wr.heap.size, 4, none⟩ = some (.slice raA o.recs.length rac) ∧ w'.cell? ⟨wr.heap.size, 5, none⟩ = some (.slice saA o.send.length sac) ∧   w'.cell? ⟨wr.heap.size + 1, 0, none⟩ = some (.bool o.save) ∧ w'.cell? ⟨wr.heap.size + 1, 1, none⟩ = some (.int .i64 o.hard.term) ∧ w'.cell? ⟨wr.heap.size + 1, 2, none⟩ = some (.int .i64 o.hard.vote) ∧ w'.cell? ⟨wr.heap.size + 1, 3, none⟩ = some (.int .i64 o.fr) ∧   w'.cell? ⟨wr.heap.size + 1, 4, none⟩ = some (.slice rbA o.recs.length rbc) ∧ w'.cell? ⟨wr.heap.size + 1, 5, none⟩ = some (.slice sbA o.send.length sbc) ∧   w'.cell? ⟨bq, 1, none⟩ = some (.int .i64 r2.hard.term) ∧ w'.cell? ⟨bq, 2, none⟩ = some (.int .i64 r2.hard.vote) ∧ w'.cell? ⟨bq, 3, none⟩ = some (.slice A' r2.log.length cap') ∧ w'.cell? ⟨bq, 4, none⟩ = some (.int .i64 r2.role) ∧ w'.cell? ⟨bq, 5, none⟩ = some (.int .i64 r2.commit)) (first | exact HSS.out _ ((Below.refl _ _).drew) | exact HSS.out _ (by assumption) | assumption)
                ((first
                  | (go_at_call 27; go_split_ands; show Calls Try.prog 27 #[outVal o _ _, outVal o _ _] _ _; refine (sameOut_calls o _ _ _ _ (HOA.out _ (by assumption)) (HOB.out _ (by assumption)) (by omega)).mono ?_; rintro e w5 ⟨rfl, hb5⟩; have hbw5 : Below wc.heap.size wc w5 := ((Below.refl _ wc).drew).trans hb5)
                  | (go_at_call 28; go_split_ands; refine (hard_calls (HREP.out _ hbw5)).mono ?_; rintro e w6 ⟨rfl, hb6⟩; have hbw6 : Below wc.heap.size wc w6 := hbw5.trans (hb6.mono hbw5.size))
                  | (go_at_call 15; go_split_ands; refine (role_calls (HREP.out _ hbw6)).mono ?_; rintro e w7 ⟨rfl, rfl⟩)
                  | (go_at_call 17; go_split_ands; refine (commit_calls (HREP.out _ hbw6)).mono ?_; rintro e w7 ⟨rfl, rfl⟩)
                  | (go_at_call 19; go_split_ands; refine (log_calls (HREP.out _ hbw6)).mono ?_; rintro e w8 ⟨lv, rfl, hlv, hb8⟩; obtain ⟨lvA, lvc, rfl⟩ := own_form hlv; have hbw8 : Below wc.heap.size wc w8 := hbw6.trans (hb8.mono hbw6.size); have HLV := Lib.hid (Sl.of_own hlv); clear hlv)
                  | (go_at_call 18; go_split_ands; refine (same_calls r2.log r2.log _ _ HLV.out (Sl.of_own (HREF.out _ hbw8).own)).mono ?_; rw [sameB_eq rfl]; rintro e w9 ⟨rfl, hb9⟩; have hbw9 : Below wc.heap.size wc w9 := hbw8.trans (hb9.mono hbw8.size))))
              go_split_ands
              go_wp2_with fail
              go_roundw
              case rel => exact ⟨i + 1, r2, A, cap, A', cap', gv, gn, gm, by omega, by go_num, HST.out.below hbw9, HAR.out.fr (S := fun _ => False) (Fr.of_below hbw9) (fun _ h => h.elim)⟩
              case measure => simp [intOf]; omega
          · have hltI : ¬ (i : Int) < (l.length : Int) := by omega
            have HAR := Lib.hid harg
            clear hst harg
            go_wp2_with fail
            go_ret
            exact ⟨rfl, HAR.out.bel⟩
  · go_wp2_with fail
    go_ret
    exact ⟨rfl, HA1.out.bel⟩
end Go.Proofs.Ytodmihpmbecncaa
