/-
  Walk of the law's small: the examples of the documentation hold. No condition.
-/
import Derived.Test.YtodmihpmbecncaaClI
namespace Go.Proofs.Ytodmihpmbecncaa
open Go.RowKit

/-- Two replicas that are the call's own. -/
structure Duo (w0 W : World) (ba bb : Nat) (ra rb : Rep) (Aa Ab : Option Addr) (ca cb : Nat) : Prop where
  a : RepOk W ba ra Aa ca
  b : RepOk W bb rb Ab cb
  below : Below w0.heap.size w0 W
  newa : w0.heap.size ≤ ba ∧ ∀ ad, Aa = some ad → w0.heap.size ≤ ad.block
  newb : w0.heap.size ≤ bb ∧ ∀ ad, Ab = some ad → w0.heap.size ≤ ad.block
  sepB : ba ≠ bb
  sepA : ∀ x y, Aa = some x → Ab = some y → x.block ≠ y.block
section
variable {w0 W W' : World} {ba bb : Nat} {ra rb r' : Rep} {Aa Ab A' : Option Addr} {ca cb c' : Nat}
theorem Duo.swap (h : Duo w0 W ba bb ra rb Aa Ab ca cb) : Duo w0 W bb ba rb ra Ab Aa cb ca := ⟨h.b, h.a, h.below, h.newb, h.newa, fun e => h.sepB e.symm, fun x y ex ey e => h.sepA y x ey ex e.symm⟩
theorem Duo.go (h : Duo w0 W ba bb ra rb Aa Ab ca cb) (hb : Below W.heap.size W W') : Duo w0 W' ba bb ra rb Aa Ab ca cb :=
  ⟨h.a.below hb (Nat.le_refl _), h.b.below hb (Nat.le_refl _), h.below.trans (hb.mono h.below.size), h.newa, h.newb, h.sepB, h.sepA⟩
theorem Duo.call (h : Duo w0 W ba bb ra rb Aa Ab ca cb) (hR : RepOk W' ba r' A' c') (hA : A' = Aa ∨ ∀ ad, A' = some ad → W.heap.size ≤ ad.block) (hF : Fr (RepS ba Aa) W W') : Duo w0 W' ba bb r' rb A' Ab c' cb := by
  have hs := h.below.size
  refine ⟨hR, h.b.fr hF (fun k hk hk' => ?_), h.below.trans ⟨hF.os, hF.tape, hF.output, hF.size, fun k hk => hF.block k (by omega) (fun e => ?_)⟩, ⟨h.newa.1, fun ad e => ?_⟩, h.newb, h.sepB, fun x y ex ey => ?_⟩
  · rcases hk with rfl | ⟨ad, e1, rfl⟩ <;> rcases hk' with hk' | ⟨ad', e1', e2'⟩
    · exact h.sepB hk'.symm
    · exact (own_kind h.a.own (k := ad'.block) (by rw [e1']; rfl)).ne h.b.kind (by decide) e2'
    · exact (own_kind h.b.own (k := ad.block) (by rw [e1]; rfl)).ne h.a.kind (by decide) hk'
    · exact h.sepA ad' ad e1' e1 e2'
  · rcases e with e | ⟨ad, e1, e2⟩
    · have := h.newa.1; omega
    · have := h.newa.2 ad e1; omega
  · rcases hA with hA | hA
    · exact h.newa.2 ad (by rw [← hA]; exact e)
    · have := hA ad e; omega
  · rcases hA with hA | hA
    · exact h.sepA x y (by rw [← hA]; exact ex) ey
    · have h1 := hA x ex
      have h2 := h.b.rowLt y ey
      omega
end

/-- The first of the messages that are handed back. -/
theorem first_msg {w : World} {base : Nat} {A : Option Addr} {n c : Nat} {m : Msg} {ms : List Msg} (h : MsgsOk w base (.slice A n c) (m :: ms)) : ∃ g pA pc, A = some ⟨g, 0, none⟩ ∧ n = ms.length + 1 ∧ base ≤ g ∧ Kind w g 37 ∧ w.ownsRow base 55 2 (.slice pA m.recs.length pc) m.recs.length (recsCells m.recs) ∧
    ∀ j u, (msgCells m (.slice pA m.recs.length pc))[j]? = some u → w.cell? ⟨g, j, none⟩ = some u := by
  obtain ⟨ps, h1, h2, h3⟩ := h
  match ps, h1 with
  | p :: ps, h1 =>
    simp only [List.map_cons, List.cons.injEq] at h1
    obtain ⟨rfl, h1⟩ := h1
    obtain ⟨A', c', e⟩ := own_form h2
    injection e with eA en ec
    subst eA en ec
    have hp := h3 p List.mem_cons_self
    obtain ⟨pA, pc, hpv⟩ := own_form hp
    cases A with
    | none => have := own_nil h2 rfl; simp at this
    | some ad =>
      obtain ⟨g, off, sp⟩ := ad
      obtain ⟨rfl, rfl, hb, _, hc⟩ := own_cell h2 rfl
      refine ⟨g, pA, pc, rfl, by rw [show ms = ps.map Prod.fst from by assumption]; simp, hb, own_kind h2 rfl, by rw [hpv] at hp; exact hp, fun j u hu => hc j u ?_⟩
      rw [← hpv] at hu
      simp only [msgsCells, List.flatMap_cons]
      rw [List.getElem?_append_left (by
        rcases Nat.lt_or_ge j (msgCells p.1 p.2).length with q | q
        · exact q
        · rw [List.getElem?_eq_none q] at hu; cases hu)]
      exact hu
/-- A slice of entries that a replica may read. -/
theorem sl_recs {w : World} {b : Nat} {pA : Option Addr} {pc : Nat} {l : List Rec} {base : Nat} (h : w.ownsRow base 55 2 (.slice pA l.length pc) l.length (recsCells l)) (hb : Kind w b 76) : Sl w (· ≠ b) 2 (.slice pA l.length pc) l.length (recsCells l) := by
  refine ⟨(Sl.of_own h).1, (Sl.of_own h).2.1, pA, pc, rfl, (own_cap h).1, by have := (own_cap h).2; simp only [maxLen] at this; omega, ?_⟩
  cases pA with
  | none => exact .inl (own_nil h rfl).1
  | some ad =>
    obtain ⟨q, off, sp⟩ := ad
    obtain ⟨rfl, rfl, _, q2, q3⟩ := own_cell h rfl
    exact .inr ⟨q, 0, rfl, (own_kind h rfl).ne hb (by decide), q2, fun j u hu => by rw [Nat.zero_add]; exact q3 j u hu⟩

namespace Ex
def a1 : Rep := (M.tick (M.made 0 st0)).1
def o1 : Out := (M.tick (M.made 0 st0)).2
def ask : Msg := ⟨0, 0, 1, 1, 0, 0, 0, false, []⟩
theorem o1_eq : o1 = ⟨true, ⟨1, 0⟩, 0, [], [ask, ⟨0, 0, 2, 1, 0, 0, 0, false, []⟩]⟩ := rfl
def b1 : Rep := (M.hear (M.made 1 st0) ask).1
def o2 : Out := (M.hear (M.made 1 st0) ask).2
def yes : Msg := ⟨1, 1, 0, 1, 0, 0, 0, true, []⟩
theorem o2_eq : o2 = ⟨true, ⟨1, 0⟩, 0, [], [yes]⟩ := rfl
def a2 : Rep := (M.hear a1 yes).1
def o3 : Out := (M.hear a1 yes).2
theorem o3_eq : o3 = ⟨false, ⟨0, 0⟩, 0, [], [⟨2, 0, 1, 1, 0, 0, 0, false, []⟩, ⟨2, 0, 2, 1, 0, 0, 0, false, []⟩]⟩ := rfl
theorem a2_role : a2.role = 2 := rfl
def d : ByteArray := ⟨#[97]⟩
def a3 : Rep := (M.propose a2 d).1
def o4 : Out := (M.propose a2 d).2.2.2
def app : Msg := ⟨2, 0, 1, 1, 0, 0, 0, false, [⟨1, d⟩]⟩
theorem o4_eq : o4 = ⟨false, ⟨0, 0⟩, 1, [⟨1, d⟩], [app, ⟨2, 0, 2, 1, 0, 0, 0, false, [⟨1, d⟩]⟩]⟩ := rfl
theorem p4_eq : M.propose a2 d = (a3, 1, 0, o4) := rfl
def b2 : Rep := (M.hear b1 app).1
def o5 : Out := (M.hear b1 app).2
def got : Msg := ⟨3, 1, 0, 1, 1, 0, 0, true, []⟩
theorem o5_eq : o5 = ⟨false, ⟨0, 0⟩, 1, [⟨1, d⟩], [got]⟩ := rfl
def a4 : Rep := (M.hear a3 got).1
def o6 : Out := (M.hear a3 got).2
theorem a4_eq : a4.commit = 1 ∧ a4.log.length = 1 := ⟨rfl, rfl⟩
theorem b2_eq : b2.log.length = 1 := rfl
end Ex

/-- An out in its box: six cells at block k. -/
def Box (W : World) (k : Nat) (o : Out) (rv sv : Value) : Prop := W.heap[k]? = some (.cells [.bool o.save, .int .i64 o.hard.term, .int .i64 o.hard.vote, .int .i64 o.fr, rv, sv].toArray 45)
theorem Box.kind {W : World} {k : Nat} {o : Out} {rv sv : Value} (h : Box W k o rv sv) : Kind W k 45 := ⟨_, _, h⟩
theorem Box.cells {W : World} {k : Nat} {o : Out} {rv sv : Value} (h : Box W k o rv sv) : W.cell? ⟨k, 0, none⟩ = some (.bool o.save) ∧ W.cell? ⟨k, 1, none⟩ = some (.int .i64 o.hard.term) ∧ W.cell? ⟨k, 2, none⟩ = some (.int .i64 o.hard.vote) ∧ W.cell? ⟨k, 3, none⟩ = some (.int .i64 o.fr) ∧ W.cell? ⟨k, 4, none⟩ = some rv ∧ W.cell? ⟨k, 5, none⟩ = some sv :=
  ⟨cell_blk h 0, cell_blk h 1, cell_blk h 2, cell_blk h 3, cell_blk h 4, cell_blk h 5⟩
theorem Box.fr {W W' : World} {k b : Nat} {A : Option Addr} {r : Rep} {c : Nat} {o : Out} {rv sv : Value} (h : Box W k o rv sv) (hR : RepOk W b r A c) (hF : Fr (RepS b A) W W') : Box W' k o rv sv :=
  (hF.block k h.kind.lt (fun e => by
    rcases e with e | ⟨ad, e1, e2⟩
    · exact h.kind.ne hR.kind (by decide) e
    · exact h.kind.ne (own_kind hR.own (k := ad.block) (by rw [e1]; rfl)) (by decide) e2.symm)).trans h
theorem Box.below {W W' : World} {k : Nat} {o : Out} {rv sv : Value} (h : Box W k o rv sv) (hb : Below W.heap.size W W') : Box W' k o rv sv := (hb.block k h.kind.lt).trans h

theorem After.duo {w0 W W' : World} {ba bb : Nat} {ra rb r' : Rep} {Aa Ab : Option Addr} {ca cb : Nat} {o : Out} {e : Ending} (h : Duo w0 W ba bb ra rb Aa Ab ca cb) (hp : After W ba Aa r' o e W') :
    ∃ A' c' rA rc sA sc, e = .returned (.agg #[.bool o.save, .int .i64 o.hard.term, .int .i64 o.hard.vote, .int .i64 o.fr, .slice rA o.recs.length rc, .slice sA o.send.length sc]) ∧ Duo w0 W' ba bb r' rb A' Ab c' cb ∧
      MsgsOk W' W.heap.size (.slice sA o.send.length sc) o.send ∧ Fr (RepS ba Aa) W W' := by
  obtain ⟨A', c', rv, sv, rfl, hR, hA, hO, hF⟩ := hp
  obtain ⟨rA, rc, rfl⟩ := own_form hO.recs
  obtain ⟨sA, sc, rfl⟩ := msgs_form hO.send
  exact ⟨A', c', rA, rc, sA, sc, rfl, h.call hR (hA.imp id (fun h ad e => (h ad e).1)) hF, hO.send, hF⟩

theorem AfterP.duo {w0 W W' : World} {ba bb : Nat} {ra rb r' : Rep} {Aa Ab : Option Addr} {ca cb : Nat} {n k : Int} {o : Out} {e : Ending} (h : Duo w0 W ba bb ra rb Aa Ab ca cb) (hp : AfterP W ba Aa r' n k o e W') :
    ∃ A' c' rA rc sA sc, e = .returned (.tuple #[.int .i64 n, .int .i64 k, .agg #[.bool o.save, .int .i64 o.hard.term, .int .i64 o.hard.vote, .int .i64 o.fr, .slice rA o.recs.length rc, .slice sA o.send.length sc]]) ∧ Duo w0 W' ba bb r' rb A' Ab c' cb ∧
      MsgsOk W' W.heap.size (.slice sA o.send.length sc) o.send ∧ Fr (RepS ba Aa) W W' := by
  obtain ⟨A', c', rv, sv, rfl, hR, hA, hO, hF⟩ := hp
  obtain ⟨rA, rc, rfl⟩ := own_form hO.recs
  obtain ⟨sA, sc, rfl⟩ := msgs_form hO.send
  exact ⟨A', c', rA, rc, sA, sc, rfl, h.call hR (hA.imp id (fun h ad e => (h ad e).1)) hF, hO.send, hF⟩
theorem MsgsOk.below {W W' : World} {base : Nat} {v : Value} {ms : List Msg} (h : MsgsOk W base v ms) (hb : Below W.heap.size W W') : MsgsOk W' base v ms := h.fr (S := fun _ => False) (Fr.of_below hb) (fun _ _ _ h => h)

set_option maxRecDepth 100000 in
set_option maxHeartbeats 3200000 in
theorem small_calls (w : World) : Calls Try.prog 8 #[] w fun e w' => e = .returned (.bool true) ∧ Below w.heap.size w w' := by
  go_enter Try.func8, Try.ntmps8
  go_wp2_with fail
  refine (new_calls (ok := fun _ => True) 0 ⟨0, -1⟩ [] (.slice none 0 0) ((Sl.of_own (World.ownsRow_nil _ 0 55 2)).mono (fun _ _ _ => trivial))).mono ?_
  rintro e w1 (⟨q1, _⟩ | ⟨r0, ba, Aa, ca, q1, rfl, q2, q3, q4, q5⟩)
  · exact absurd ((new0 (k := 0) (by omega)).symm.trans q1) (by simp)
  obtain rfl : M.made 0 st0 = r0 := Option.some.inj ((new0 (k := 0) (by omega)).symm.trans q1)
  have HA := Lib.hid (And.intro q2 (And.intro q3 (And.intro q4 q5)))
  clear q1 q2 q3 q4 q5
  go_wp2_with fail
  refine (new_calls (ok := fun _ => True) 1 ⟨0, -1⟩ [] (.slice none 0 0) ((Sl.of_own (World.ownsRow_nil _ 0 55 2)).mono (fun _ _ _ => trivial))).mono ?_
  rintro e w2 (⟨q1, _⟩ | ⟨r0, bb, Ab, cb, q1, rfl, q2, q3, q4, q5⟩)
  · exact absurd ((new0 (k := 1) (by omega)).symm.trans q1) (by simp)
  obtain rfl : M.made 1 st0 = r0 := Option.some.inj ((new0 (k := 1) (by omega)).symm.trans q1)
  have hD : Duo w w2 ba bb (M.made 0 st0) (M.made 1 st0) Aa Ab ca cb := by
    obtain ⟨p2, p3, p4, p5⟩ := HA.out
    have hw := p5.size
    refine ⟨p3.below q5 (Nat.le_refl _), q3, p5.trans (q5.mono hw), ⟨p2, p4⟩, ⟨by omega, fun ad e => by have := q4 ad e; omega⟩, ?_, fun x y ex ey => ?_⟩
    · have := p3.lt; omega
    · have := p3.rowLt x ex; have := q4 y ey; omega
  have HD := Lib.hid hD
  clear q1 q2 q3 q4 q5 hD HA
  go_wp2_with fail
  -- a.Tick
  refine (tick_calls HD.out.a).mono ?_
  rintro e w3 hp
  have hp : After w2 ba Aa Ex.a1 Ex.o1 e w3 := hp
  rw [Ex.o1_eq] at hp
  obtain ⟨A1, c1, rA1, rc1, sA1, sc1, rfl, hD1, hM1, hF1⟩ := After.duo HD.out hp
  dsimp only [List.length_cons, List.length_nil] at hM1
  have HD1 := Lib.hid hD1
  have HM1 := Lib.hid hM1
  clear hp hD1 hM1 hF1 HD
  dsimp only [List.length_cons, List.length_nil]
  go_upto_region 8 with fail
  refine wp_world (fun V => Duo w V ba bb Ex.a1 (M.made 1 st0) A1 Ab c1 cb ∧ Box V w3.heap.size ⟨true, ⟨1, 0⟩, 0, [], [Ex.ask, ⟨0, 0, 2, 1, 0, 0, 0, false, []⟩]⟩ (.slice rA1 0 rc1) (.slice sA1 2 sc1) ∧ MsgsOk V w2.heap.size (.slice sA1 2 sc1) [Ex.ask, ⟨0, 0, 2, 1, 0, 0, 0, false, []⟩])
    ⟨HD1.out.go ((Below.refl _ _).alloc (Nat.le_refl _) _), heap_alloc_new w3 _, HM1.out.below ((Below.refl _ _).alloc (Nat.le_refl _) _)⟩ ?_
  clear HD1 HM1
  rintro V1 ⟨hD, hB, hM⟩
  obtain ⟨g1, p1, pc1, rfl, hq1, hq2, hk1, hr1, hc1⟩ := first_msg hM
  clear hq1 hq2
  have o5 := hB.cells.2.2.2.2.2
  have x0 := hc1 0 _ rfl
  have x1 := hc1 1 _ rfl
  have x2 := hc1 2 _ rfl
  have x3 := hc1 3 _ rfl
  have x4 := hc1 4 _ rfl
  have x5 := hc1 5 _ rfl
  have x6 := hc1 6 _ rfl
  have x7 := hc1 7 _ rfl
  have x8 := hc1 8 _ rfl
  have HD1 := Lib.hid hD
  have HR1 := Lib.hid hr1
  clear hD hB hM hk1 hr1 hc1
  unfold Ex.ask at x0 x1 x2 x3 x4 x5 x6 x7 x8
  dsimp only at x0 x1 x2 x3 x4 x5 x6 x7 x8
  go_wp2_with fail
  -- b.Hear(one.Send[0])
  show Calls Try.prog 23 #[.pointer (some ⟨bb, 0, none⟩), msgVal Ex.ask (.slice p1 Ex.ask.recs.length pc1)] _ _
  refine (hear_calls HD1.out.b Ex.ask _ (sl_recs HR1.out HD1.out.b.kind)).mono ?_
  rintro e w4 hp
  replace hp : After V1 bb Ab Ex.b1 Ex.o2 e w4 := hp
  rw [Ex.o2_eq] at hp
  obtain ⟨A2, c2, rA2, rc2, sA2, sc2, rfl, hD2, hM2, hF2⟩ := After.duo HD1.out.swap hp
  dsimp only [List.length_cons, List.length_nil] at hM2
  have HD2 := Lib.hid hD2
  have HM2 := Lib.hid hM2
  clear hp hD2 hM2 hF2 HD1 HR1 o5 x0 x1 x2 x3 x4 x5 x6 x7 x8
  dsimp only [List.length_cons, List.length_nil]
  go_upto_region 9 with fail
  refine wp_world (fun V => Duo w V bb ba Ex.b1 Ex.a1 A2 A1 c2 c1 ∧ Box V w4.heap.size ⟨true, ⟨1, 0⟩, 0, [], [Ex.yes]⟩ (.slice rA2 0 rc2) (.slice sA2 1 sc2) ∧ MsgsOk V V1.heap.size (.slice sA2 1 sc2) [Ex.yes])
    ⟨HD2.out.go ((Below.refl _ _).alloc (Nat.le_refl _) _), heap_alloc_new w4 _, HM2.out.below ((Below.refl _ _).alloc (Nat.le_refl _) _)⟩ ?_
  clear HD2 HM2
  rintro V2 ⟨hD, hB, hM⟩
  obtain ⟨g2, p2, pc2, rfl, hq1, hq2, hk1, hr1, hc1⟩ := first_msg hM
  clear hq1 hq2
  have o5 := hB.cells.2.2.2.2.2
  have x0 := hc1 0 _ rfl
  have x1 := hc1 1 _ rfl
  have x2 := hc1 2 _ rfl
  have x3 := hc1 3 _ rfl
  have x4 := hc1 4 _ rfl
  have x5 := hc1 5 _ rfl
  have x6 := hc1 6 _ rfl
  have x7 := hc1 7 _ rfl
  have x8 := hc1 8 _ rfl
  have HD2 := Lib.hid hD
  have HR2 := Lib.hid hr1
  clear hD hB hM hk1 hr1 hc1
  unfold Ex.yes at x0 x1 x2 x3 x4 x5 x6 x7 x8
  dsimp only at x0 x1 x2 x3 x4 x5 x6 x7 x8
  go_wp2_with fail
  -- a.Hear(two.Send[0])
  show Calls Try.prog 23 #[.pointer (some ⟨ba, 0, none⟩), msgVal Ex.yes (.slice p2 Ex.yes.recs.length pc2)] _ _
  refine (hear_calls HD2.out.b Ex.yes _ (sl_recs HR2.out HD2.out.b.kind)).mono ?_
  rintro e w5 hp
  replace hp : After V2 ba A1 Ex.a2 Ex.o3 e w5 := hp
  rw [Ex.o3_eq] at hp
  obtain ⟨A3, c3, rA3, rc3, sA3, sc3, rfl, hD3, hM3, hF3⟩ := After.duo HD2.out.swap hp
  have HD3 := Lib.hid hD3
  clear hp hD3 hM3 hF3 HD2 HR2 o5 x0 x1 x2 x3 x4 x5 x6 x7 x8
  dsimp only [List.length_cons, List.length_nil]
  go_upto_region 12 with fail
  refine wp_world (fun V => Duo w V ba bb Ex.a2 Ex.b1 A3 A2 c3 c2 ∧ Box V w5.heap.size ⟨false, ⟨0, 0⟩, 0, [], [⟨2, 0, 1, 1, 0, 0, 0, false, []⟩, ⟨2, 0, 2, 1, 0, 0, 0, false, []⟩]⟩ (.slice rA3 0 rc3) (.slice sA3 2 sc3))
    ⟨HD3.out.go ((Below.refl _ _).alloc (Nat.le_refl _) _), heap_alloc_new w5 _⟩ ?_
  clear HD3
  rintro V3 ⟨hD, hB⟩
  have HD3 := Lib.hid hD
  have HB3 := Lib.hid hB
  clear hD hB
  go_wp2_with fail
  -- a.Propose("a")
  refine (propose_calls HD3.out.a Ex.d (by decide) (fun _ => by decide)).mono ?_
  rintro e w6 hp
  replace hp : AfterP V3 ba A3 Ex.a3 1 0 Ex.o4 e w6 := hp
  rw [Ex.o4_eq] at hp
  obtain ⟨A4, c4, rA4, rc4, sA4, sc4, rfl, hD4, hM4, hF4⟩ := AfterP.duo HD3.out hp
  have hB4 := HB3.out.fr HD3.out.a hF4
  have HD4 := Lib.hid hD4
  have HB4 := Lib.hid hB4
  dsimp only [List.length_cons, List.length_nil] at hM4
  have HM4 := Lib.hid hM4
  clear hp hD4 hB4 hM4 hF4 HD3 HB3
  dsimp only [List.length_cons, List.length_nil]
  go_upto_region 13 with fail
  refine wp_world (fun V => Duo w V ba bb Ex.a3 Ex.b1 A4 A2 c4 c2 ∧ Box V w5.heap.size ⟨false, ⟨0, 0⟩, 0, [], [⟨2, 0, 1, 1, 0, 0, 0, false, []⟩, ⟨2, 0, 2, 1, 0, 0, 0, false, []⟩]⟩ (.slice rA3 0 rc3) (.slice sA3 2 sc3) ∧
      Box V w6.heap.size ⟨false, ⟨0, 0⟩, 1, [⟨1, Ex.d⟩], [Ex.app, ⟨2, 0, 2, 1, 0, 0, 0, false, [⟨1, Ex.d⟩]⟩]⟩ (.slice rA4 1 rc4) (.slice sA4 2 sc4) ∧ MsgsOk V V3.heap.size (.slice sA4 2 sc4) [Ex.app, ⟨2, 0, 2, 1, 0, 0, 0, false, [⟨1, Ex.d⟩]⟩])
    ⟨HD4.out.go ((Below.refl _ _).alloc (Nat.le_refl _) _), HB4.out.below ((Below.refl _ _).alloc (Nat.le_refl _) _), heap_alloc_new w6 _, HM4.out.below ((Below.refl _ _).alloc (Nat.le_refl _) _)⟩ ?_
  clear HD4 HB4 HM4
  rintro V4 ⟨hD, hB3, hB, hM⟩
  have p5 := hB3.cells.2.2.2.2.2
  obtain ⟨g4, p4, pc4, rfl, hq1, hq2, hk1, hr1, hc1⟩ := first_msg hM
  clear hq1 hq2
  have o5 := hB.cells.2.2.2.2.2
  have x0 := hc1 0 _ rfl
  have x1 := hc1 1 _ rfl
  have x2 := hc1 2 _ rfl
  have x3 := hc1 3 _ rfl
  have x4 := hc1 4 _ rfl
  have x5 := hc1 5 _ rfl
  have x6 := hc1 6 _ rfl
  have x7 := hc1 7 _ rfl
  have x8 := hc1 8 _ rfl
  have HD4 := Lib.hid hD
  have HR4 := Lib.hid hr1
  clear hD hB3 hB hM hk1 hr1 hc1
  unfold Ex.app at x0 x1 x2 x3 x4 x5 x6 x7 x8
  dsimp only [List.length_cons, List.length_nil] at x0 x1 x2 x3 x4 x5 x6 x7 x8
  go_wp2_with fail
  refine (role_calls HD4.out.a).mono ?_
  rintro e w' ⟨rfl, rfl⟩
  have hrole : Ex.a3.role = 2 := rfl
  rw [hrole]
  clear hrole
  go_wp2_with fail
  -- b.Hear(four.Send[0])
  show Calls Try.prog 23 #[.pointer (some ⟨bb, 0, none⟩), msgVal Ex.app (.slice p4 Ex.app.recs.length pc4)] _ _
  refine (hear_calls HD4.out.b Ex.app _ (sl_recs HR4.out HD4.out.b.kind)).mono ?_
  rintro e w7 hp
  replace hp : After V4 bb A2 Ex.b2 Ex.o5 e w7 := hp
  rw [Ex.o5_eq] at hp
  obtain ⟨A5, c5, rA5, rc5, sA5, sc5, rfl, hD5, hM5, hF5⟩ := After.duo HD4.out.swap hp
  dsimp only [List.length_cons, List.length_nil] at hM5
  have HD5 := Lib.hid hD5
  have HM5 := Lib.hid hM5
  clear hp hD5 hM5 hF5 HD4 HR4 p5 o5 x0 x1 x2 x3 x4 x5 x6 x7 x8
  dsimp only [List.length_cons, List.length_nil]
  go_upto_region 16 with fail
  refine wp_world (fun V => Duo w V bb ba Ex.b2 Ex.a3 A5 A4 c5 c4 ∧ Box V w7.heap.size ⟨false, ⟨0, 0⟩, 1, [⟨1, Ex.d⟩], [Ex.got]⟩ (.slice rA5 1 rc5) (.slice sA5 1 sc5) ∧ MsgsOk V V4.heap.size (.slice sA5 1 sc5) [Ex.got])
    ⟨HD5.out.go ((Below.refl _ _).alloc (Nat.le_refl _) _), heap_alloc_new w7 _, HM5.out.below ((Below.refl _ _).alloc (Nat.le_refl _) _)⟩ ?_
  clear HD5 HM5
  rintro V5 ⟨hD, hB, hM⟩
  obtain ⟨g5, p5, pc5, rfl, hq1, hq2, hk1, hr1, hc1⟩ := first_msg hM
  clear hq1 hq2
  have o3 := hB.cells.2.2.2.1
  have o5 := hB.cells.2.2.2.2.2
  dsimp only at o3
  have x0 := hc1 0 _ rfl
  have x1 := hc1 1 _ rfl
  have x2 := hc1 2 _ rfl
  have x3 := hc1 3 _ rfl
  have x4 := hc1 4 _ rfl
  have x5 := hc1 5 _ rfl
  have x6 := hc1 6 _ rfl
  have x7 := hc1 7 _ rfl
  have x8 := hc1 8 _ rfl
  have HD5 := Lib.hid hD
  have HR5 := Lib.hid hr1
  clear hD hB hM hk1 hr1 hc1
  unfold Ex.got at x0 x1 x2 x3 x4 x5 x6 x7 x8
  dsimp only [List.length_cons, List.length_nil] at x0 x1 x2 x3 x4 x5 x6 x7 x8
  go_wp2_with fail
  -- a.Hear(five.Send[0])
  show Calls Try.prog 23 #[.pointer (some ⟨ba, 0, none⟩), msgVal Ex.got (.slice p5 Ex.got.recs.length pc5)] _ _
  refine (hear_calls HD5.out.b Ex.got _ (sl_recs HR5.out HD5.out.b.kind)).mono ?_
  rintro e w8 hp
  replace hp : After V5 ba A4 Ex.a4 Ex.o6 e w8 := hp
  obtain ⟨A6, c6, rA6, rc6, sA6, sc6, rfl, hD6, hM6, hF6⟩ := After.duo HD5.out.swap hp
  have HD6 := Lib.hid hD6
  clear hp hD6 hM6 hF6 HD5 HR5 o3 o5 x0 x1 x2 x3 x4 x5 x6 x7 x8
  go_wp2_with fail
  refine (commit_calls HD6.out.a).mono ?_
  rintro e w' ⟨rfl, rfl⟩
  rw [Ex.a4_eq.1]
  go_wp2_with fail
  refine (log_calls HD6.out.a).mono ?_
  rintro e w9 ⟨v9, rfl, ho9, hb9⟩
  obtain ⟨A9, c9, rfl⟩ := own_form ho9
  rw [Ex.a4_eq.2]
  have HD7 := Lib.hid (HD6.out.go hb9)
  clear ho9 hb9 HD6
  go_wp2_with fail
  refine (log_calls HD7.out.b).mono ?_
  rintro e w10 ⟨v10, rfl, ho10, hb10⟩
  obtain ⟨A10, c10, rfl⟩ := own_form ho10
  rw [Ex.b2_eq]
  have HD8 := Lib.hid (HD7.out.go hb10)
  clear ho10 hb10 HD7
  go_wp2_with fail
  go_ret
  exact ⟨rfl, HD8.out.below⟩
end Go.Proofs.Ytodmihpmbecncaa
