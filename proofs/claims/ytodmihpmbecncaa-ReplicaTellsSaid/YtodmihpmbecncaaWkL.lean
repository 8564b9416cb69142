/-
  The walk of replica.append, the case where the log is written: it computes what the model says.
-/
import Derived.Test.YtodmihpmbecncaaWkK
import Derived.Test.YtodmihpmbecncaaWkF
import Derived.Deep.RegionLaw
namespace Go.Proofs.Ytodmihpmbecncaa
open Go.RowKit

def zOut : Obj := .cells #[.bool false, .int .i64 0, .int .i64 0, .int .i64 0, .slice none 0 0, .slice none 0 0] 45

/-- The memory of append at its loop. -/
structure AppSt (w W : World) (b : Nat) (r1 : Rep) (A : Option Addr) (cap : Nat) (m : Msg) (mA : Option Addr) (mc : Nat) (a : Msg) (B2 B3 : Nat) : Prop where
  rep : RepOk W b r1 A cap
  fr : Fr (RepS b A) w W
  msg : W.heap[w.heap.size]? = some (.cells (msgCells m (.slice mA m.recs.length mc)).toArray 37)
  res : W.heap[w.heap.size + 1]? = some zOut
  ans : W.heap[B2]? = some (.cells (msgCells a (.slice none 0 0)).toArray 37)
  out : W.heap[B3]? = some zOut
  recs : Sl W (· ≠ b) 2 (.slice mA m.recs.length mc) m.recs.length (recsCells m.recs)
  bw : b < w.heap.size
  rowW : ∀ ad, A = some ad → ad.block < w.heap.size
  lt1 : w.heap.size + 1 < B2
  lt2 : B2 < B3
theorem AppSt.below {w W W' : World} {b : Nat} {r1 : Rep} {A : Option Addr} {cap : Nat} {m : Msg} {mA : Option Addr} {mc : Nat} {a : Msg} {B2 B3 : Nat} (h : AppSt w W b r1 A cap m mA mc a B2 B3) (hb : Below W.heap.size W W') :
    AppSt w W' b r1 A cap m mA mc a B2 B3 where
  rep := h.rep.below hb (Nat.le_refl _)
  fr := h.fr.trans (Fr.of_below hb)
  msg := (hb.block _ (lt_blk h.msg)).trans h.msg
  res := (hb.block _ (lt_blk h.res)).trans h.res
  ans := (hb.block _ (lt_blk h.ans)).trans h.ans
  out := (hb.block _ (lt_blk h.out)).trans h.out
  recs := h.recs.below hb (Nat.le_refl _)
  bw := h.bw
  rowW := h.rowW
  lt1 := h.lt1
  lt2 := h.lt2

/-- The memory of append behind its loop: the log is l, the result holds from FR on the entries xs. -/
structure AppEnd (w V : World) (b : Nat) (r : Rep) (A A' : Option Addr) (cap' : Nat) (l : List Rec) (FR : Int) (rA : Option Addr) (xs : List Rec) (rc : Nat) (m : Msg) (mA : Option Addr) (mc : Nat) (B2 B3 : Nat) : Prop where
  rep : RepOk V b { r with role := 0, log := l } A' cap'
  fresh : A' = A ∨ ∀ ad, A' = some ad → w.heap.size ≤ ad.block ∧ (Value.slice rA xs.length rc).ownBlock ≠ some ad.block
  fr : Fr (RepS b A) w V
  msg : V.heap[w.heap.size]? = some (.cells (msgCells m (.slice mA m.recs.length mc)).toArray 37)
  res : V.heap[w.heap.size + 1]? = some zOut
  ans : V.heap[B2]? = some (.cells (msgCells (M.message r 3 m.fr) (.slice none 0 0)).toArray 37)
  out : V.heap[B3]? = some (.cells [.bool false, .int .i64 0, .int .i64 0, .int .i64 FR, .slice rA xs.length rc, .slice none 0 0].toArray 45)
  recs : V.ownsRow (w.heap.size + 2) 55 2 (.slice rA xs.length rc) xs.length (recsCells xs)
  bw : b < w.heap.size
  lt1 : w.heap.size + 1 < B2
  lt2 : B2 < B3
  ans' : M.append r m = ({ r with role := 0, log := l, commit := max r.commit (min m.commit (m.index + m.recs.length)) }, { M.noOut with fr := FR, recs := xs, send := [{ M.message r 3 m.fr with yes := true, index := m.index + m.recs.length }] })
  len : m.index + m.recs.length ≤ (l.length : Int)

theorem M.WF.log {r : Rep} (h : M.WF r) {l : List Rec} (hs : M.sound l 1 r.hard.term = true) (hl : l.length ≤ 4000) (hc : r.commit ≤ l.length) : M.WF { r with role := 0, log := l } :=
  { h with
    len := hl
    logOk := hs
    role0 := Int.le_refl _
    role2 := by show (0 : Int) ≤ 2; omega
    commitN := hc
    nexts := fun (e : (0 : Int) = 2) => absurd e (by decide)
    mtchs := fun (e : (0 : Int) = 2) => absurd e (by decide) }

section
variable {w : World} {b : Nat} {r : Rep} {A : Option Addr} {cap : Nat}

/-- append onto an owned row from a slice that is read alone, as one step of a region that draws. -/
theorem step_append_sl {P : Program} {ops : Array Oper} {o : Oper} {a : Act} {w : World} {K : Act → World → Prop} {Q : Exit → Act → World → Prop} {E : Prop} (hgd : o.guard = none) (s x : Operand) (t : TypeId)
    (ho : o.op = .call { callee := .builtin .append, args := #[s, x], argTypes := #[t, t] })
    (base : Nat) (e : TypeId) (z : Value) (size bytes : Nat) (ht : P.underlying t = some (.slice e)) (hi : (P.info? e).map (fun i => (i.zero, i.size, i.bytes)) = some (some z, size, bytes))
    (hzs : z.cells.size = size) (hsz : 0 < size)
    (v : Value) (n : Nat) (xs : List Value) (hs : a.eval s = v) (hown : w.ownsRow base e size v n xs)
    (ok : Nat → Prop) (v2 : Value) (m : Nat) (news : List Value) (hx : a.eval x = v2) (hsl : Sl w ok size v2 m news) (h1 : ∀ u ∈ news, u.oneCell' = true)
    (h63 : n + m ≤ maxLen) (hbytes : (n + m) * bytes ≤ 140737488355328) (hbase : base ≤ w.heap.size)
    (h : ∀ v' w', w'.ownsRow base e size v' (n + m) (xs ++ news) → w.grownBy w' v.ownBlock → (v'.ownBlock = v.ownBlock ∨ v'.ownBlock = some w.heap.size) → K (a.put o.dst v') w') :
    if Region.wanted o (yielded ops a.tmps) = true then Oper.wp P o a w K Q else E := by
  have hw : Region.wanted o (yielded ops a.tmps) = true := by simp [Region.wanted, hgd]
  rw [if_pos hw]
  obtain ⟨i, h2, h3, h4, h5⟩ := info_parts hi
  obtain ⟨v', w', hr, h6, h7, h8⟩ := run_append_sl (P := P) w base t o.type e i z size bytes ht h2 h3 h4 h5 hzs hsz v n xs hown ok v2 m news hsl h1 h63 hbytes hbase
  unfold Oper.wp execOp
  simp only [ho, resolve, invoke, builtin, Sem.run_bind, Sem.run_pure, Result.andThen_ok, List.map_toArray, List.map_cons, List.map_nil, hs, hx, hr]
  exact h v' w' h6 h7 h8

theorem append_eq {m : Msg} (hlt : ¬ m.term < r.hard.term) (h2 : r.role ≠ 2) (hp : m.index ≤ (r.log.length : Int)) (hp2 : M.tm r.log m.index = m.prev) :
    M.append r m = if M.agree r.log m.index m.recs < m.recs.length then
        if m.index + (M.agree r.log m.index m.recs : Int) + 1 ≤ r.commit then ({ r with role := 0 }, M.noOut)
        else ({ r with role := 0, log := r.log.take (m.index + (M.agree r.log m.index m.recs : Int) + 1 - 1).toNat ++ m.recs.drop (M.agree r.log m.index m.recs), commit := max r.commit (min m.commit (m.index + m.recs.length)) },
          { M.noOut with fr := m.index + (M.agree r.log m.index m.recs : Int) + 1, recs := m.recs.drop (M.agree r.log m.index m.recs), send := [{ M.message r 3 m.fr with yes := true, index := m.index + m.recs.length }] })
      else ({ r with role := 0, commit := max r.commit (min m.commit (m.index + m.recs.length)) }, M.answer { M.message r 3 m.fr with yes := true, index := m.index + m.recs.length }) := by
  unfold M.append
  rw [if_neg hlt, if_neg h2, if_neg (by rintro (q | q); exact absurd q (by omega); exact q hp2)]

theorem recs_drop_slice {W : World} {ok : Nat → Prop} {A : Option Addr} {c : Nat} {xs : List Rec} (h : Sl W ok 2 (.slice A xs.length c) xs.length (recsCells xs)) (k : Nat) (hk : k ≤ xs.length) :
    ∃ sv, Sl W ok 2 sv (xs.drop k).length (recsCells (xs.drop k)) ∧ ∀ W, (Instr.slice 35 (.slice A xs.length c) (some (.int .i64 k)) none none).run Try.prog W = .ok sv W := by
  have hc : xs.length ≤ c := by
    obtain ⟨_, _, A', c', hA, h1, _⟩ := h
    cases hA; exact h1
  have h1 := h.sub k xs.length hk (Nat.le_refl _)
  have e1 : ((recsCells xs).drop (k * 2)).take ((xs.length - k) * 2) = recsCells (xs.drop k) := by
    rw [← recsCells_drop]
    exact List.take_of_length_le (by rw [recsCells_length, List.length_drop]; omega)
  rw [e1] at h1
  rw [List.length_drop]
  refine ⟨_, h1, fun W' => ?_⟩
  have := subLo35 A xs.length c (k : Int) (by omega) (by omega) hc W'
  simpa using this
theorem recs_take_slice {W : World} {ok : Nat → Prop} {A : Option Addr} {c : Nat} {xs : List Rec} (h : Sl W ok 2 (.slice A xs.length c) xs.length (recsCells xs)) (P : Int) (h0 : 0 ≤ P) (hk : P ≤ xs.length) :
    ∃ sv, Sl W ok 2 sv (xs.take P.toNat).length (recsCells (xs.take P.toNat)) ∧ ∀ W, (Instr.slice 35 (.slice A xs.length c) none (some (.int .i64 P)) none).run Try.prog W = .ok sv W := by
  have hc : xs.length ≤ c := by
    obtain ⟨_, _, A', c', hA, h1, _⟩ := h
    cases hA; exact h1
  have h1 := h.sub 0 P.toNat (Nat.zero_le _) (by omega)
  have e1 : ((recsCells xs).drop (0 * 2)).take ((P.toNat - 0) * 2) = recsCells (xs.take P.toNat) := by
    rw [recsCells_take]; simp
  rw [e1] at h1
  have e2 : (xs.take P.toNat).length = P.toNat - 0 := by rw [List.length_take]; omega
  rw [e2]
  refine ⟨_, h1, fun W' => ?_⟩
  have := subHi35 A xs.length c P (by omega) (by omega) W'
  simpa using this

set_option maxRecDepth 4000 in
set_option maxHeartbeats 3200000 in
theorem append_calls_go (h : RepOk w b r A cap) (m : Msg) (mA : Option Addr) (mc : Nat) (hs : Sl w (· ≠ b) 2 (.slice mA m.recs.length mc) m.recs.length (recsCells m.recs)) (hlt : ¬ m.term < r.hard.term) (h2 : r.role ≠ 2) (hi0 : 0 ≤ m.index) (hi4 : m.index + m.recs.length ≤ 4000) (hr8 : m.recs.length ≤ 8)
    (hp : m.index ≤ (r.log.length : Int)) (hp2 : M.tm r.log m.index = m.prev)
    (hso : M.sound m.recs (max 1 m.prev) r.hard.term = true) (_hc0 : 0 ≤ m.commit) :
    Calls Try.prog 44 #[.pointer (some ⟨b, 0, none⟩), msgVal m (.slice mA m.recs.length mc)] w (After w b A (M.append r m).1 (M.append r m).2) := by
  have hE := append_eq hlt h2 hp hp2
  have HE := Lib.hid hE
  clear hE
  unfold msgVal msgCells
  have hb := h.lt
  have hlen := h.wf.len
  have HH := Lib.hid h
  have d1 : decide (m.term < r.hard.term) = false := by simpa using hlt
  have d2 : (r.role == 2) = false := by simpa using h2
  have d3 : decide ((r.log.length : Int) < m.index) = false := by simp; omega
  have d4 : (M.tm r.log m.index != m.prev) = false := by simpa using hp2
  have HS := Lib.hid hs
  have hrow := h.rowLt
  have HROW := Lib.hid hrow
  have HSO := Lib.hid hso
  have HP2 := Lib.hid hp2
  clear hso
  clear h hp2 hs hrow
  go_enter Try.func44, Try.ntmps44
  go_wp2_with fail
  refine (message_calls ((HH.out.alloc _).alloc _) 3 m.fr).mono ?_
  rintro e w1 ⟨rfl, hb1⟩
  have h1 := ((HH.out.alloc _).alloc _).below hb1 (Nat.le_refl _)
  have hb1w : w.heap.size + 2 ≤ w1.heap.size := by have := hb1.size; simp at this; omega
  have hw0 : w.heap.size < w1.heap.size := by omega
  have hw1 : w.heap.size + 1 < w1.heap.size := by omega
  have HB1 := Lib.hid hb1
  have H1 := Lib.hid h1
  obtain ⟨c0, c1, c2, c3, c4, _⟩ := h1.cells
  have f4 := h1.free 4
  have hm1 : w1.heap[w.heap.size]? = some (.cells (msgCells m (.slice mA m.recs.length mc)).toArray 37) := (hb1.block _ (by simp; omega)).trans ((Below.heap_alloc _ _ _ (by simp)).trans (heap_alloc_new w _))
  have hz1 : w1.heap[w.heap.size + 1]? = some (.cells #[.bool false, .int .i64 0, .int .i64 0, .int .i64 0, .slice none 0 0, .slice none 0 0] 45) := (hb1.block _ (by simp)).trans (heap_alloc2_new w _ _)
  have m3 := cell_blk hm1 3
  simp only [msgCells, List.getElem?_cons_succ, List.getElem?_cons_zero] at m3
  have HM1 := Lib.hid hm1
  have HZ1 := Lib.hid hz1
  have hbw1 := h1.lt
  clear h1 hb1 hm1 hz1
  go_wp2_with fail
  go_quiet (fail)
  go_upto_region 7 with fail
  refine wp_world (fun W => RepOk W b { r with role := 0 } A cap ∧ Fr (RepS b A) w W ∧ W.heap[w.heap.size]? = some (.cells (msgCells m (.slice mA m.recs.length mc)).toArray 37) ∧
     W.heap[w.heap.size + 1]? = some zOut ∧
     W.heap[w1.heap.size]? = some (.cells (msgCells (M.message r 3 m.fr) (.slice none 0 0)).toArray 37) ∧ Sl W (· ≠ b) 2 (.slice mA m.recs.length mc) m.recs.length (recsCells m.recs))
    ⟨⟨?_, HH.out.wf.role0'⟩, ?_, ?_, ?_, ?_, ?_⟩ ?_
  · exact RepB.putRole (((HH.out.alloc _).alloc _).below (below_drewN (HB1.out.alloc (Nat.le_trans (by simp) hb1w) _) _) (Nat.le_refl _)).toRepB 0
  · exact ((((Fr.refl _ w).alloc _).alloc _).trans (Fr.of_below (below_drewN (HB1.out.alloc (Nat.le_trans (by simp) hb1w) _) _))).setCell (p := ⟨b, 4, none⟩) (.inl (.inl rfl)) _
  · exact (other_blk (by show w.heap.size ≠ b; omega)).trans ((Below.heap_alloc _ _ _ hw0).trans HM1.out)
  · exact (other_blk (by show w.heap.size + 1 ≠ b; omega)).trans ((Below.heap_alloc _ _ _ hw1).trans HZ1.out)
  · exact (other_blk (by show w1.heap.size ≠ b; omega)).trans (heap_alloc_new w1 _)
  · exact HS.out.fr (S := fun k => k = b) (((((Fr.refl (fun k => k = b) w).alloc _).alloc _).trans (Fr.of_below (below_drewN (HB1.out.alloc (Nat.le_trans (by simp) hb1w) _) _))).setCell (p := ⟨b, 4, none⟩) (.inl rfl) _) (fun k hk e => hk e)
  rintro W ⟨hRW, hFW, hmW, hzW, haW, hsW⟩
  clear c0 c1 c2 c3 c4 f4 m3
  have hbW := hRW.lt
  have c3 := hRW.cells.2.2.2.1
  have m4 := cell_blk hmW 4
  have m5 := cell_blk hmW 5
  simp only [msgCells, List.getElem?_cons_succ, List.getElem?_cons_zero] at m4 m5
  have haL := lt_blk haW
  have hzL := lt_blk hzW
  have hmL := lt_blk hmW
  have HRW := Lib.hid hRW
  have HFW := Lib.hid hFW
  have HMW := Lib.hid hmW
  have HZW := Lib.hid hzW
  have HAW := Lib.hid haW
  have HSW := Lib.hid hsW
  clear hRW hFW hmW hzW haW hsW HM1 HZ1 HS
  go_quiet ((go_at_call 36; exact Calls.quiet_of_same (term_q HRW.out m.index hi0 hp _)))
  go_upto_region 11 with fail
  refine wp_world (fun U => AppSt w U b { r with role := 0 } A cap m mA mc (M.message r 3 m.fr) w1.heap.size W.heap.size) ?_ ?_
  · exact { rep := (HRW.out.drewN _).alloc _, fr := (HFW.out.drewNs _).alloc _, msg := (Below.heap_alloc _ _ _ hmL).trans HMW.out, res := (Below.heap_alloc _ _ _ hzL).trans HZW.out, ans := (Below.heap_alloc _ _ _ haL).trans HAW.out, out := heap_alloc_new _ _,
            recs := HSW.out.below ((below_drewN (Below.refl _ _) _).alloc (Nat.le_refl _) _) (Nat.le_refl _), bw := hb, rowW := HROW.out, lt1 := hw1, lt2 := haL }
  clear c3 m4 m5 HRW HFW HMW HZW HAW HSW HB1 H1
  rintro U hU
  have m8 := cell_blk hU.msg 8
  simp only [msgCells, List.getElem?_cons_succ, List.getElem?_cons_zero] at m8
  have hmU := lt_blk hU.msg
  have HU := Lib.hid hU
  clear hU
  have haa := M.agree_le r.log m.index m.recs
  generalize hB2 : w1.heap.size = B2 at *
  generalize hB3 : W.heap.size = B3 at *
  clear hB2 hB3
  go_upto_block 0 with fail
  go_cut [] (fun wx => ∃ A' cap' l FR rA xs rc, AppEnd w wx b r A A' cap' l FR rA xs rc m mA mc B2 B3)
  case rest =>
    obtain ⟨A', cap', l, FR, rA, xs, rc, hV⟩ := hcut
    clear HU HE m8
    have m4 := cell_blk hV.msg 4
    have m8 := cell_blk hV.msg 8
    have a4 := cell_blk hV.ans 4
    have a7 := cell_blk hV.ans 7
    have g4 := free_blk hV.ans 4
    have g7 := free_blk hV.ans 7
    simp only [msgCells, List.getElem?_cons_succ, List.getElem?_cons_zero, M.message] at m4 m8 a4 a7
    have hmV := lt_blk hV.msg
    have haV := lt_blk hV.ans
    have hlt1 := hV.lt1
    have hlt2 := hV.lt2
    have hne : w.heap.size ≠ B2 := by omega
    have HV := Lib.hid hV
    clear hV
    go_upto_region 21 with fail
    go_region
    all_goals
      go_upto_region 22 with fail
      have hlen2 := HV.out.len
      have hans2 := HV.out.ans'
      have hN0 : 0 ≤ m.index + (m.recs.length : Int) := by omega
      generalize hN : m.index + (m.recs.length : Int) = N at *
      clear hN
      have HANS := Lib.hid hans2
      clear hans2
      refine wp_world (fun V => RepOk V b { r with role := 0, log := l } A' cap' ∧ Fr (RepS b A) w V ∧ V.heap[w.heap.size]? = some (.cells (msgCells m (.slice mA m.recs.length mc)).toArray 37) ∧ V.heap[w.heap.size + 1]? = some zOut ∧
          V.heap[B2]? = some (.cells (msgCells { M.message r 3 m.fr with yes := true, index := N } (.slice none 0 0)).toArray 37) ∧
          V.heap[B3]? = some (.cells [.bool false, .int .i64 0, .int .i64 0, .int .i64 FR, .slice rA xs.length rc, .slice none 0 0].toArray 45) ∧
          V.ownsRow (w.heap.size + 2) 55 2 (.slice rA xs.length rc) xs.length (recsCells xs)) ?_ ?_
      · have hb2 : B2 ≠ b := by have := HV.out.bw; omega
        have hA2 : ∀ ad, A' = some ad → ad.block ≠ B2 := fun ad e => (own_kind HV.out.rep.own (k := ad.block) (by rw [e]; rfl)).ne ⟨_, _, HV.out.ans⟩ (by decide)
        refine ⟨?_, ?_, ?_, ?_, ?_, ?_, ?_⟩
        · first
          | exact (((HV.out.rep.far (a := ⟨B2, 7, none⟩) hb2 hA2 _).far (a := ⟨B2, 4, none⟩) hb2 hA2 _).drew)
          | exact (((HV.out.rep.far (a := ⟨B2, 4, none⟩) hb2 hA2 _).far (a := ⟨B2, 7, none⟩) hb2 hA2 _).drew)
        · exact ((HV.out.fr.setCell (p := ⟨B2, _, none⟩) (.inr (by show w.heap.size ≤ B2; omega)) _).setCell (p := ⟨B2, _, none⟩) (.inr (by show w.heap.size ≤ B2; omega)) _).drew
        · exact (other_blk (by show w.heap.size ≠ B2; omega)).trans ((other_blk (by show w.heap.size ≠ B2; omega)).trans HV.out.msg)
        · exact (other_blk (by show w.heap.size + 1 ≠ B2; omega)).trans ((other_blk (by show w.heap.size + 1 ≠ B2; omega)).trans HV.out.res)
        · exact set_blk (set_blk HV.out.ans _ _) _ _
        · exact (other_blk (by show B3 ≠ B2; omega)).trans ((other_blk (by show B3 ≠ B2; omega)).trans HV.out.out)
        · exact own_fr (own_fr HV.out.recs (fr_setCell _ _ _) (fun q hq e => (own_kind HV.out.recs hq).ne ⟨_, _, HV.out.ans⟩ (by decide) e)) (S := fun k => k = B2) (((Fr.refl (fun k => k = B2) _).setCell (p := ⟨B2, _, none⟩) (.inl rfl) _).drew) (fun q hq e => (own_kind HV.out.recs hq).ne ⟨_, _, HV.out.ans⟩ (by decide) e)
      clear m4 m8 a4 a7 g4 g7
      rintro V2 ⟨hR2, hF2, hm2, hz2, ha2, ho2, hw2⟩
      have hb2 := hR2.lt
      have d5 := hR2.cells.2.2.2.2.2
      have f5 := hR2.free 5
      have m6 := cell_blk hm2 6
      have a4 := cell_blk ha2 4
      simp only [msgCells, List.getElem?_cons_succ, List.getElem?_cons_zero, M.message] at m6 a4
      have hmL := lt_blk hm2
      have haL := lt_blk ha2
      have hbw := HV.out.bw
      have hcm0 := hR2.wf.commit0
      have hcmN := hR2.wf.commitN
      change 0 ≤ r.commit at hcm0
      change r.commit ≤ (l.length : Int) at hcmN
      change V2.cell? _ = some (.int .i64 r.commit) at d5
      have HR2 := Lib.hid hR2
      have HF2 := Lib.hid hF2
      have HZ2 := Lib.hid hz2
      have HA2 := Lib.hid ha2
      have HO2 := Lib.hid ho2
      have HW2 := Lib.hid hw2
      clear hR2 hF2 hm2 hz2 ha2 ho2 hw2
      go_region
      all_goals
        go_upto_region 23 with fail
        generalize hY : (if N < m.commit then N else m.commit) = Y
        generalize hC : (if r.commit < Y then Y else r.commit) = C
        have hC2 : max r.commit (min m.commit N) = C := by
          rw [← hC, ← hY]
          split <;> split <;> omega
        have hC0 : 0 ≤ C ∧ C ≤ (l.length : Int) := by omega
        have hans := HANS.out
        rw [hC2] at hans
        have HANS2 := Lib.hid hans
        clear hans hC2 hY hC HANS
        refine wp_world (fun V => RepOk V b { r with role := 0, log := l, commit := C } A' cap' ∧ Fr (RepS b A) w V ∧ V.heap[w.heap.size + 1]? = some zOut ∧
            V.heap[B2]? = some (.cells (msgCells { M.message r 3 m.fr with yes := true, index := N } (.slice none 0 0)).toArray 37) ∧
            V.heap[B3]? = some (.cells [.bool false, .int .i64 0, .int .i64 0, .int .i64 FR, .slice rA xs.length rc, .slice none 0 0].toArray 45) ∧
            V.ownsRow (w.heap.size + 2) 55 2 (.slice rA xs.length rc) xs.length (recsCells xs))
          ⟨⟨(HR2.out.drewN _).toRepB.putCommit C, HR2.out.wf.commit hC0.1 hC0.2⟩, (HF2.out.drewNs _).setCell (p := ⟨b, 5, none⟩) (.inl (.inl rfl)) _,
           (other_blk (by show w.heap.size + 1 ≠ b; omega)).trans HZ2.out, (other_blk (by show B2 ≠ b; omega)).trans HA2.out, (other_blk (by show B3 ≠ b; omega)).trans HO2.out,
           own_fr (S := fun k => k = b) HW2.out (((Fr.refl (fun k => k = b) _).drewNs _).setCell (p := ⟨b, 5, none⟩) (.inl rfl) _) (fun q hq e => by
             have h1 := (own_lt HW2.out hq).1
             omega)⟩ ?_
        clear d5 f5 m6 a4 HR2 HF2 HZ2 HA2 HO2 HW2
        rintro V3 ⟨hR3, hF3, hz3, ha3, ho3, hw3⟩
        have x0 := cell_blk ha3 0
        have x1 := cell_blk ha3 1
        have x2 := cell_blk ha3 2
        have x3 := cell_blk ha3 3
        have x4 := cell_blk ha3 4
        have x5 := cell_blk ha3 5
        have x6 := cell_blk ha3 6
        have x7 := cell_blk ha3 7
        have x8 := cell_blk ha3 8
        simp only [msgCells, List.getElem?_cons_succ, List.getElem?_cons_zero, M.message] at x0 x1 x2 x3 x4 x5 x6 x7 x8
        have o5 := cell_blk ho3 5
        have g5 := free_blk ho3 5
        simp only [List.getElem?_cons_succ, List.getElem?_cons_zero] at o5
        have haL := lt_blk ha3
        have hoL := lt_blk ho3
        have hzL := lt_blk hz3
        have hbL := hR3.lt
        have HR3 := Lib.hid hR3
        have HF3 := Lib.hid hF3
        have HZ3 := Lib.hid hz3
        have HO3 := Lib.hid ho3
        have HW3 := Lib.hid hw3
        clear hR3 hF3 hz3 ha3 ho3 hw3
        go_upto_region 24 with fail
        have hown := own_one_msg (V3.setCell ⟨B3, 5, none⟩ (.slice (some ⟨V3.heap.size, 0, none⟩) 1 1)) { M.message r 3 m.fr with yes := true, index := N } (.slice none 0 0)
        simp only [World.size_setCell] at hown
        refine wp_world (fun V => RepOk V b { r with role := 0, log := l, commit := C } A' cap' ∧ Fr (RepS b A) w V ∧ V.heap[w.heap.size + 1]? = some zOut ∧
            V.heap[B3]? = some (.cells [.bool false, .int .i64 0, .int .i64 0, .int .i64 FR, .slice rA xs.length rc, .slice (some ⟨V3.heap.size, 0, none⟩) 1 1].toArray 45) ∧
            OutOk V w.heap.size { M.noOut with fr := FR, recs := xs, send := [{ M.message r 3 m.fr with yes := true, index := N }] } (.slice rA xs.length rc) (.slice (some ⟨V3.heap.size, 0, none⟩) 1 1) ∧
            FreshRow w V A A' { M.noOut with fr := FR, recs := xs, send := [{ M.message r 3 m.fr with yes := true, index := N }] } (.slice rA xs.length rc) (.slice (some ⟨V3.heap.size, 0, none⟩) 1 1))
          ⟨RepOk.alloc (HR3.out.far (a := ⟨B3, 5, none⟩) (by show B3 ≠ b; omega) (fun ad e => (own_kind HR3.out.own (k := ad.block) (by rw [e]; rfl)).ne ⟨_, _, HO3.out⟩ (by decide)) _) _,
           (HF3.out.setCell (p := ⟨B3, 5, none⟩) (.inr (by show w.heap.size ≤ B3; omega)) _).alloc _,
           (Below.heap_alloc _ _ _ (by simp; omega)).trans ((other_blk (by show w.heap.size + 1 ≠ B3; omega)).trans HZ3.out),
           (Below.heap_alloc _ _ _ (by simp; omega)).trans (set_blk HO3.out 5 _),
           ⟨own_mono (own_fr (S := fun k => k = B3) HW3.out (((Fr.refl (fun k => k = B3) _).setCell (p := ⟨B3, 5, none⟩) (.inl rfl) _).alloc _) (fun q hq e => (own_kind HW3.out hq).ne ⟨_, _, HO3.out⟩ (by decide) e)) (by omega),
            [({ M.message r 3 m.fr with yes := true, index := N }, .slice none 0 0)], rfl, own_mono (by simpa [msgCells, msgsCells, M.message] using hown) (by omega), fun p hp => by
              obtain rfl : p = ({ M.message r 3 m.fr with yes := true, index := N }, .slice none 0 0) := by simpa using hp
              exact World.ownsRow_nil _ _ _ _⟩,
           HV.out.fresh.imp id (fun h ad e => ⟨(h ad e).1, (h ad e).2, [({ M.message r 3 m.fr with yes := true, index := N }, .slice none 0 0)], rfl, own_mono (by simpa [msgCells, msgsCells, M.message] using hown) (HR3.out.rowLt ad e), fun p hp => by
              obtain rfl : p = ({ M.message r 3 m.fr with yes := true, index := N }, .slice none 0 0) := by simpa using hp
              exact World.ownsRow_nil _ _ _ _⟩)⟩ ?_
        clear hown x0 x1 x2 x3 x4 x5 x6 x7 x8 o5 g5 HR3 HF3 HZ3 HO3 HW3
        rintro V4 ⟨hR4, hF4, hz4, ho4, hok4, hfr4⟩
        have HFR4 := Lib.hid hfr4
        have x0 := cell_blk ho4 0
        have x1 := cell_blk ho4 1
        have x2 := cell_blk ho4 2
        have x3 := cell_blk ho4 3
        have x4 := cell_blk ho4 4
        have x5 := cell_blk ho4 5
        simp only [List.getElem?_cons_succ, List.getElem?_cons_zero] at x0 x1 x2 x3 x4 x5
        have HR4 := Lib.hid hR4
        have HF4 := Lib.hid hF4
        have HZ4 := Lib.hid hz4
        have HK4 := Lib.hid hok4
        clear hR4 hF4 hz4 ho4 hok4 hfr4
        go_wp2_with (refine wpList_store_list rfl 45 (.tmp 4) (.tmp 144) rfl (w.heap.size + 1) _ rfl rfl 45 _ HZ4.out 6 size45 rfl rfl rfl ?_)
        refine bodyPost_ret (v := _) (results_cell_row rfl _ _ (w.heap.size + 1) 45 _ (0, 0) _ rfl (setRow_heap _ _ _ _ _ _ HZ4.out) Try.underlying45 rfl size45) rfl ?_
        rw [HANS2.out]
        exact after_setRow (o := { M.noOut with fr := FR, recs := xs, send := [{ M.message r 3 m.fr with yes := true, index := N }] }) HR4.out HFR4.out HK4.out HF4.out ⟨_, _, HZ4.out⟩ (by omega) _
  case first =>
    go_wp2_with fail
    go_loopw [65] (fun i wr => ∃ k : Nat, k ≤ m.recs.length ∧ i = .int .i64 k ∧ Below U.heap.size U wr ∧ k ≤ M.agree r.log m.index m.recs) (fun i _ => m.recs.length - (intOf i).toNat)
    case atStart => exact ⟨0, by omega, rfl, Below.refl _ _, Nat.zero_le _⟩
    case round =>
      obtain ⟨k, hk, rfl, hbr, hka⟩ := hrel
      by_cases hkn : k < m.recs.length
      · obtain ⟨_, _, A', c', hA', _, _, hq⟩ := HU.out.recs
        cases hA'
        rcases hq with hq | ⟨g, off, rfl, hgb, hgU, hcs⟩
        · omega
        obtain ⟨g0, g1⟩ := recs_get hcs k hkn
        have c0 := (hbr.cell (p := ⟨g, off + k * 2, none⟩) hgU).trans g0
        have c1 := (hbr.cell (p := ⟨g, off + k * 2 + 1, none⟩) hgU).trans g1
        have hr := HU.out.below hbr
        have hgr : g < wr.heap.size := Nat.lt_of_lt_of_le hgU hbr.size
        have m4 := cell_blk hr.msg 4
        simp only [msgCells, List.getElem?_cons_succ, List.getElem?_cons_zero] at m4
        have hmr := lt_blk hr.msg
        have d3 := hr.rep.cells.2.2.2.1
        have hbr' := hr.rep.lt
        have HR := Lib.hid hr
        have HBR := Lib.hid hbr
        clear g0 g1 hcs hr hbr
        generalize hx : m.recs[k] = x at *
        go_upto_region 15 with fail
        refine wp_world (fun V => AppSt w V b { r with role := 0 } A cap m (some ⟨g, off, none⟩) mc (M.message r 3 m.fr) B2 B3 ∧ Below U.heap.size U V ∧ V.cell? ⟨wr.heap.size, 0, none⟩ = some (.int .i64 x.term) ∧ wr.heap.size < V.heap.size)
          ⟨HR.out.below ((Below.refl _ _).alloc (Nat.le_refl _) _), HBR.out.alloc HBR.out.size _, by go_simp, by simp⟩ ?_
        clear c0 c1 m4 d3 HR HBR
        rintro V ⟨hV, hbV, cx, hwrV⟩
        have d3 := hV.rep.cells.2.2.2.1
        have d5 := hV.rep.cells.2.2.2.2.2
        have hbV' := hV.rep.lt
        have HV := Lib.hid hV
        have HBV := Lib.hid hbV
        have hzV := lt_blk hV.res
        clear hV hbV
        have hag : (m.index + (k : Int) + 1 ≤ (r.log.length : Int) ∧ M.tm r.log (m.index + (k : Int) + 1) = x.term ∧ k + 1 ≤ M.agree r.log m.index m.recs) ∨
            (M.agree r.log m.index m.recs = k ∧ (¬ (m.index + (k : Int) + 1 ≤ (r.log.length : Int)) ∨ (m.index + (k : Int) + 1 ≤ (r.log.length : Int) ∧ M.tm r.log (m.index + (k : Int) + 1) ≠ x.term))) := by
          have ha := M.agree_at r.log m.recs m.index k hka
          rw [List.drop_eq_getElem_cons hkn, hx, M.agree_cons] at ha
          by_cases hc : m.index + (k : Int) + 1 ≤ (r.log.length : Int) ∧ M.tm r.log (m.index + (k : Int) + 1) = x.term
          · rw [if_pos hc] at ha
            exact .inl ⟨hc.1, hc.2, by omega⟩
          · rw [if_neg hc] at ha
            refine .inr ⟨by omega, ?_⟩
            by_cases hq : m.index + (k : Int) + 1 ≤ (r.log.length : Int)
            · exact .inr ⟨hq, fun e => hc ⟨hq, e⟩⟩
            · exact .inl hq
        have hi1 : 0 ≤ m.index + (k : Int) + 1 := by omega
        have hi2 : m.index + (k : Int) + 1 ≤ 4000 := by omega
        have hi3 : m.index + (k : Int) + 1 ≤ (r.log.length : Int) + 1 := by
          have := M.agree_in r.log m.index m.recs hi0 hp
          omega
        have hi4' : 1 ≤ m.index + (k : Int) + 1 := by omega
        generalize hi : m.index + (k : Int) + 1 = i at *
        have HI := Lib.hid hi
        clear hi
        rcases hag with ⟨q1, q2, q3⟩ | ⟨q0, hq⟩
        · have e1 : decide (i ≤ (r.log.length : Int)) = true := by simpa using q1
          have e2 : (M.tm r.log i == x.term) = true := by simpa using q2
          go_quiet ((go_at_call 36; exact Calls.quiet_of_same (term_q HV.out.rep i hi1 q1 _)))
          go_wp2_with fail
          go_roundw
          case rel => exact ⟨k + 1, by omega, by go_num, below_drewN HBV.out _, q3⟩
          case measure => simp [intOf]; omega
        · have HQ0 := Lib.hid q0
          clear q0
          rcases hq with q1 | ⟨q1, q2⟩
          · have e1 : decide (i ≤ (r.log.length : Int)) = false := by simpa using q1
            go_quiet (fail)
            go_upto_region 16 with fail
            refine wp_world (fun X => AppSt w X b { r with role := 0 } A cap m (some ⟨g, off, none⟩) mc (M.message r 3 m.fr) B2 B3) (HV.out.below (below_drewN (Below.refl _ _) _)) ?_
            clear d3 d5 cx HV
            rintro X hX
            have hbX := hX.rep.lt
            have d5 := hX.rep.cells.2.2.2.2.2
            have m8 := cell_blk hX.msg 8
            simp only [msgCells, List.getElem?_cons_succ, List.getElem?_cons_zero] at m8
            have hmX := lt_blk hX.msg
            have hzX := lt_blk hX.res
            have hoX := lt_blk hX.out
            have HX := Lib.hid hX
            clear hX
            by_cases hc : i ≤ r.commit
            · have hE := HE.out
              rw [HQ0.out, if_pos hkn, HI.out, if_pos hc] at hE
              have HE2 := Lib.hid hE
              clear hE HE
              go_wp2_with (refine wpList_store_list rfl 45 (.tmp 4) (.tmp 96) rfl (w.heap.size + 1) _ rfl rfl 45 _ HX.out.res 6 size45 rfl rfl rfl ?_)
              refine bodyPost_ret (v := _) (results_cell_row rfl _ _ (w.heap.size + 1) 45 _ (0, 0) _ rfl (setRow_heap _ _ _ _ _ _ HX.out.res) Try.underlying45 rfl size45) rfl ?_
              rw [HE2.out]
              exact after_setRow (o := M.noOut) (rv := .slice none 0 0) (sv := .slice none 0 0) HX.out.rep (.inl rfl) (OutOk.nil _ _) HX.out.fr ⟨_, _, HX.out.res⟩ (by omega) _
            · have hE := HE.out
              rw [HQ0.out, if_pos hkn, HI.out, if_neg hc] at hE
              have HE2 := Lib.hid hE
              clear hE HE
              obtain ⟨sv, hsv, hrun⟩ := recs_drop_slice HX.out.recs k (by omega)
              generalize hxs : m.recs.drop k = xs at hsv
              have hdl : xs.length = m.recs.length - k := by rw [← hxs, List.length_drop]
              have HSV := Lib.hid hsv
              have HXS := Lib.hid hxs
              have HDL := Lib.hid hdl
              have hdl8 : xs.length ≤ 8 := by omega
              clear hsv hxs hdl
              have o2 := cell_blk (cs := [.bool false, .int .i64 0, .int .i64 0, .int .i64 0, .slice none 0 0, .slice none 0 0]) HX.out.out 2
              have ob := HX.out.out
              unfold zOut at ob
              have o3 := cell_blk (cs := [.bool false, .int .i64 0, .int .i64 0, .int .i64 0, .slice none 0 0, .slice none 0 0]) ob 3
              have g3 := free_blk (cs := [.bool false, .int .i64 0, .int .i64 0, .int .i64 0, .slice none 0 0, .slice none 0 0]) ob 3
              have HOB := Lib.hid ob
              clear ob o2 o3 g3
              go_wp2_with fail
              refine (clone_calls sv xs X HSV.out (by omega)).mono ?_
              rintro e w2 ⟨rv, rfl, hown, hb2⟩
              obtain ⟨rA, rc, rfl⟩ := own_form hown
              have hbw2 := HX.out.rep.lt
              have hX2 := HX.out.below hb2
              have ob := hX2.out
              unfold zOut at ob
              have o3 := cell_blk (cs := [.bool false, .int .i64 0, .int .i64 0, .int .i64 0, .slice none 0 0, .slice none 0 0]) ob 3
              have g3 := free_blk (cs := [.bool false, .int .i64 0, .int .i64 0, .int .i64 0, .slice none 0 0, .slice none 0 0]) ob 3
              have o4 := cell_blk (cs := [.bool false, .int .i64 0, .int .i64 0, .int .i64 0, .slice none 0 0, .slice none 0 0]) ob 4
              have g4 := free_blk (cs := [.bool false, .int .i64 0, .int .i64 0, .int .i64 0, .slice none 0 0, .slice none 0 0]) ob 4
              simp only [List.getElem?_cons_succ, List.getElem?_cons_zero] at o3 o4
              have hs2 := hb2.size
              have HX2 := Lib.hid hX2
              have HOWN := Lib.hid hown
              have HOB2 := Lib.hid ob
              have hlt1 := HX2.out.lt1
              have hlt2 := HX2.out.lt2
              clear hX2 hown hb2 ob m8
              go_upto_region 19 with fail
              refine wp_world (fun Y => RepOk Y b { r with role := 0 } A cap ∧ Fr (RepS b A) w Y ∧ Y.heap[w.heap.size]? = some (.cells (msgCells m (.slice (some ⟨g, off, none⟩) m.recs.length mc)).toArray 37) ∧ Y.heap[w.heap.size + 1]? = some zOut ∧
                  Y.heap[B2]? = some (.cells (msgCells (M.message r 3 m.fr) (.slice none 0 0)).toArray 37) ∧
                  Y.heap[B3]? = some (.cells [.bool false, .int .i64 0, .int .i64 0, .int .i64 i, .slice rA xs.length rc, .slice none 0 0].toArray 45) ∧
                  Y.ownsRow (w.heap.size + 2) 55 2 (.slice rA xs.length rc) xs.length (recsCells xs))
                ⟨RepOk.far (RepOk.far HX2.out.rep (by show B3 ≠ b; omega) (fun ad e => by have := HX2.out.rowW ad e; show ad.block ≠ B3; omega) _) (by show B3 ≠ b; omega) (fun ad e => by have := HX2.out.rowW ad e; show ad.block ≠ B3; omega) _,
                 (HX2.out.fr.setCell (p := ⟨B3, 3, none⟩) (.inr (by show w.heap.size ≤ B3; omega)) _).setCell (p := ⟨B3, 4, none⟩) (.inr (by show w.heap.size ≤ B3; omega)) _,
                 (other_blk (by show w.heap.size ≠ B3; omega)).trans ((other_blk (by show w.heap.size ≠ B3; omega)).trans HX2.out.msg),
                 (other_blk (by show w.heap.size + 1 ≠ B3; omega)).trans ((other_blk (by show w.heap.size + 1 ≠ B3; omega)).trans HX2.out.res),
                 (other_blk (by show B2 ≠ B3; omega)).trans ((other_blk (by show B2 ≠ B3; omega)).trans HX2.out.ans),
                 set_blk (set_blk HOB2.out 3 _) 4 _, ?_⟩ ?_
              · exact own_mono (own_fr (S := fun k => k = B3) HOWN.out (((Fr.refl (fun k => k = B3) w2).setCell (p := ⟨B3, 3, none⟩) (.inl rfl) _).setCell (p := ⟨B3, 4, none⟩) (.inl rfl) _) (fun q hq e => by
                  have := (own_lt HOWN.out hq).1
                  omega)) (by omega)
              clear o3 o4 g3 g4 HX2 HOWN HOB2 HOB d5 HSV HX
              rintro Y ⟨hRY, hFY, hmY, hzY, haY, hoY, hwY⟩
              have d3 := hRY.cells.2.2.2.1
              have f3 := hRY.free 3
              have hbY := hRY.lt
              have o4 := cell_blk hoY 4
              simp only [List.getElem?_cons_succ, List.getElem?_cons_zero] at o4
              have hoL := lt_blk hoY
              obtain ⟨tv, htv, hrun2⟩ := recs_take_slice (Sl.of_own hRY.own) (i - 1) (by omega) (by show i - 1 ≤ (r.log.length : Int); omega)
              change Sl Y _ 2 tv (r.log.take (i - 1).toNat).length (recsCells (r.log.take (i - 1).toNat)) at htv
              generalize htl : r.log.take (i - 1).toNat = tl at htv
              have hdt : tl.length = (i - 1).toNat := by rw [← htl, List.length_take]; omega
              have hdt4 : tl.length ≤ 4000 := by omega
              have HTL := Lib.hid htl
              have HDT := Lib.hid hdt
              clear htl hdt
              have hw1 : IntKind.i64.wrap (i - 1) = i - 1 := IntWalk.i64_in _ (by omega)
              have HRY := Lib.hid hRY
              have HFY := Lib.hid hFY
              have HMY := Lib.hid hmY
              have HZY := Lib.hid hzY
              have HAY := Lib.hid haY
              have HOY := Lib.hid hoY
              have HWY := Lib.hid hwY
              have HTV := Lib.hid htv
              clear hRY hFY hmY hzY haY hoY hwY htv
              go_region_law ((first
                | (refine step_append_sl rfl _ _ 35 (by rfl) (w.heap.size + 2) 55 _ 2 24 Try.underlying35 info55 rfl (by decide) _ tl.length (recsCells tl) (by rfl) (own_mono hown3 (by have := HFY.out.size; show w.heap.size + 2 ≤ Y.heap.size; omega)) (w.heap.size + 2 ≤ ·) _ xs.length (recsCells xs) (by rfl) ((Sl.of_own HWY.out).below hb3' (Nat.le_refl _)) (recsCells_one _) (by simp only [maxLen]; omega) (by omega) (by omega) ?_
                   intro v' w4 hown4 hg4 hat4
                   have hb4 : Below Y.heap.size Y w4 := hb3'.grown hg4 hs3 (fun q hq => (own_lt hown3 hq).1)
                   obtain ⟨A4, c4, rfl⟩ := own_form hown4
                   have d3' : w4.cell? ⟨b, 3, none⟩ = some (.slice A r.log.length cap) := (hb4.cell (p := ⟨b, 3, none⟩) hbY).trans d3
                   have f3' : w4.frozen? ⟨b, 3, none⟩ = false := (HRY.out.below hb4 (Nat.le_refl _)).free 3)
                | (go_simp
                   go_at_call 37
                   refine (clone_calls tv tl _ (HTV.out.below (Below.refl _ _).drew (Nat.le_refl _)) (by omega)).mono ?_
                   rintro e w3 ⟨tw, rfl, hown3, hb3⟩
                   have hb3' : Below Y.heap.size Y w3 := (Below.refl _ Y).drew.trans hb3
                   have hs3 := hb3'.size
                   have o4' : w3.cell? ⟨B3, 4, none⟩ = some (.slice rA xs.length rc) := (hb3'.cell (p := ⟨B3, 4, none⟩) hoL).trans o4
                   go_wp2_with fail)))
              all_goals (go_wp2_with fail; go_meet)
              all_goals
                have hL : (tl ++ xs).length = tl.length + xs.length := List.length_append
                have hown5 : w4.ownsRow (w.heap.size + 2) 55 2 (.slice A4 (tl ++ xs).length c4) (tl ++ xs).length (recsCells (tl ++ xs)) := by
                  rw [hL, recsCells_append]; exact hown4
                have hA4 : ∀ ad, A4 = some ad → w.heap.size + 2 ≤ ad.block := fun ad e => (own_lt hown5 (by rw [e]; rfl)).1
                have hA5 : ∀ ad, A4 = some ad → Y.heap.size ≤ ad.block := fun ad e => by
                  rw [e] at hat4
                  rcases hat4 with hq | hq
                  · exact (own_lt hown3 hq.symm).1
                  · have : ad.block = w3.heap.size := Option.some.inj hq
                    omega
                have hlx : m.index + (m.recs.length : Int) ≤ ((tl ++ xs).length : Int) ∧ (tl ++ xs).length ≤ 4000 ∧ r.commit ≤ ((tl ++ xs).length : Int) := by
                  have := HDT.out
                  have := HDL.out
                  have := HI.out
                  rw [hL]
                  omega
                have hso2 : M.sound (tl ++ xs) 1 r.hard.term = true := by
                  have hq := M.append_sound HH.out.wf.logOk HSO.out hi0 hp HP2.out
                  rw [HQ0.out] at hq
                  rw [← HTL.out, ← HXS.out, ← HI.out]
                  rw [show m.index + (k : Int) + 1 - 1 = m.index + (k : Int) from by omega]
                  exact hq
                rw [← hL]
                have hbb : b < w.heap.size := HH.out.lt
                have hans := HE2.out
                rw [HTL.out, HXS.out] at hans
                exact ⟨A4, c4, tl ++ xs, i, rA, xs, rc,
                  { rep := ⟨RepB.putLog (HRY.out.below hb4 (Nat.le_refl _)).toRepB (tl ++ xs) A4 c4 (own_mono hown5 (Nat.zero_le _)) (fun ad e => by have := hA4 ad e; omega), HH.out.wf.log hso2 hlx.2.1 hlx.2.2⟩
                    fresh := .inr (fun ad e => ⟨by have := hA4 ad e; omega, fun hq => by have h1 := (own_lt HWY.out hq).2; have h2 := hA5 ad e; omega⟩)
                    fr := (HFY.out.trans (Fr.of_below hb4)).setCell (.inl (.inl rfl)) _
                    msg := (other_blk (by show w.heap.size ≠ b; omega)).trans ((hb4.block _ (lt_blk HMY.out)).trans HMY.out)
                    res := (other_blk (by show w.heap.size + 1 ≠ b; omega)).trans ((hb4.block _ (lt_blk HZY.out)).trans HZY.out)
                    ans := (other_blk (by show B2 ≠ b; omega)).trans ((hb4.block _ (lt_blk HAY.out)).trans HAY.out)
                    out := (other_blk (by show B3 ≠ b; omega)).trans ((hb4.block _ (lt_blk HOY.out)).trans HOY.out)
                    recs := own_fr (own_below HWY.out hb4 (Nat.le_refl _)) (fr_setCell _ _ _) (fun q hq e => by
                      have h1 := (own_lt HWY.out hq).1
                      have h2 : q = b := e
                      omega)
                    bw := hbb
                    lt1 := hlt1
                    lt2 := hlt2
                    ans' := hans
                    len := hlx.1 }⟩
          · have e1 : decide (i ≤ (r.log.length : Int)) = true := by simpa using q1
            have e2 : (M.tm r.log i == x.term) = false := by simpa using q2
            go_quiet ((go_at_call 36; exact Calls.quiet_of_same (term_q HV.out.rep i hi1 q1 _)))
            go_upto_region 16 with fail
            refine wp_world (fun X => AppSt w X b { r with role := 0 } A cap m (some ⟨g, off, none⟩) mc (M.message r 3 m.fr) B2 B3) (HV.out.below (below_drewN (Below.refl _ _) _)) ?_
            clear d3 d5 cx HV
            rintro X hX
            have hbX := hX.rep.lt
            have d5 := hX.rep.cells.2.2.2.2.2
            have m8 := cell_blk hX.msg 8
            simp only [msgCells, List.getElem?_cons_succ, List.getElem?_cons_zero] at m8
            have hmX := lt_blk hX.msg
            have hzX := lt_blk hX.res
            have hoX := lt_blk hX.out
            have HX := Lib.hid hX
            clear hX
            by_cases hc : i ≤ r.commit
            · have hE := HE.out
              rw [HQ0.out, if_pos hkn, HI.out, if_pos hc] at hE
              have HE2 := Lib.hid hE
              clear hE HE
              go_wp2_with (refine wpList_store_list rfl 45 (.tmp 4) (.tmp 96) rfl (w.heap.size + 1) _ rfl rfl 45 _ HX.out.res 6 size45 rfl rfl rfl ?_)
              refine bodyPost_ret (v := _) (results_cell_row rfl _ _ (w.heap.size + 1) 45 _ (0, 0) _ rfl (setRow_heap _ _ _ _ _ _ HX.out.res) Try.underlying45 rfl size45) rfl ?_
              rw [HE2.out]
              exact after_setRow (o := M.noOut) (rv := .slice none 0 0) (sv := .slice none 0 0) HX.out.rep (.inl rfl) (OutOk.nil _ _) HX.out.fr ⟨_, _, HX.out.res⟩ (by omega) _
            · have hE := HE.out
              rw [HQ0.out, if_pos hkn, HI.out, if_neg hc] at hE
              have HE2 := Lib.hid hE
              clear hE HE
              obtain ⟨sv, hsv, hrun⟩ := recs_drop_slice HX.out.recs k (by omega)
              generalize hxs : m.recs.drop k = xs at hsv
              have hdl : xs.length = m.recs.length - k := by rw [← hxs, List.length_drop]
              have HSV := Lib.hid hsv
              have HXS := Lib.hid hxs
              have HDL := Lib.hid hdl
              have hdl8 : xs.length ≤ 8 := by omega
              clear hsv hxs hdl
              have o2 := cell_blk (cs := [.bool false, .int .i64 0, .int .i64 0, .int .i64 0, .slice none 0 0, .slice none 0 0]) HX.out.out 2
              have ob := HX.out.out
              unfold zOut at ob
              have o3 := cell_blk (cs := [.bool false, .int .i64 0, .int .i64 0, .int .i64 0, .slice none 0 0, .slice none 0 0]) ob 3
              have g3 := free_blk (cs := [.bool false, .int .i64 0, .int .i64 0, .int .i64 0, .slice none 0 0, .slice none 0 0]) ob 3
              have HOB := Lib.hid ob
              clear ob o2 o3 g3
              go_wp2_with fail
              refine (clone_calls sv xs X HSV.out (by omega)).mono ?_
              rintro e w2 ⟨rv, rfl, hown, hb2⟩
              obtain ⟨rA, rc, rfl⟩ := own_form hown
              have hbw2 := HX.out.rep.lt
              have hX2 := HX.out.below hb2
              have ob := hX2.out
              unfold zOut at ob
              have o3 := cell_blk (cs := [.bool false, .int .i64 0, .int .i64 0, .int .i64 0, .slice none 0 0, .slice none 0 0]) ob 3
              have g3 := free_blk (cs := [.bool false, .int .i64 0, .int .i64 0, .int .i64 0, .slice none 0 0, .slice none 0 0]) ob 3
              have o4 := cell_blk (cs := [.bool false, .int .i64 0, .int .i64 0, .int .i64 0, .slice none 0 0, .slice none 0 0]) ob 4
              have g4 := free_blk (cs := [.bool false, .int .i64 0, .int .i64 0, .int .i64 0, .slice none 0 0, .slice none 0 0]) ob 4
              simp only [List.getElem?_cons_succ, List.getElem?_cons_zero] at o3 o4
              have hs2 := hb2.size
              have HX2 := Lib.hid hX2
              have HOWN := Lib.hid hown
              have HOB2 := Lib.hid ob
              have hlt1 := HX2.out.lt1
              have hlt2 := HX2.out.lt2
              clear hX2 hown hb2 ob m8
              go_upto_region 19 with fail
              refine wp_world (fun Y => RepOk Y b { r with role := 0 } A cap ∧ Fr (RepS b A) w Y ∧ Y.heap[w.heap.size]? = some (.cells (msgCells m (.slice (some ⟨g, off, none⟩) m.recs.length mc)).toArray 37) ∧ Y.heap[w.heap.size + 1]? = some zOut ∧
                  Y.heap[B2]? = some (.cells (msgCells (M.message r 3 m.fr) (.slice none 0 0)).toArray 37) ∧
                  Y.heap[B3]? = some (.cells [.bool false, .int .i64 0, .int .i64 0, .int .i64 i, .slice rA xs.length rc, .slice none 0 0].toArray 45) ∧
                  Y.ownsRow (w.heap.size + 2) 55 2 (.slice rA xs.length rc) xs.length (recsCells xs))
                ⟨RepOk.far (RepOk.far HX2.out.rep (by show B3 ≠ b; omega) (fun ad e => by have := HX2.out.rowW ad e; show ad.block ≠ B3; omega) _) (by show B3 ≠ b; omega) (fun ad e => by have := HX2.out.rowW ad e; show ad.block ≠ B3; omega) _,
                 (HX2.out.fr.setCell (p := ⟨B3, 3, none⟩) (.inr (by show w.heap.size ≤ B3; omega)) _).setCell (p := ⟨B3, 4, none⟩) (.inr (by show w.heap.size ≤ B3; omega)) _,
                 (other_blk (by show w.heap.size ≠ B3; omega)).trans ((other_blk (by show w.heap.size ≠ B3; omega)).trans HX2.out.msg),
                 (other_blk (by show w.heap.size + 1 ≠ B3; omega)).trans ((other_blk (by show w.heap.size + 1 ≠ B3; omega)).trans HX2.out.res),
                 (other_blk (by show B2 ≠ B3; omega)).trans ((other_blk (by show B2 ≠ B3; omega)).trans HX2.out.ans),
                 set_blk (set_blk HOB2.out 3 _) 4 _, ?_⟩ ?_
              · exact own_mono (own_fr (S := fun k => k = B3) HOWN.out (((Fr.refl (fun k => k = B3) w2).setCell (p := ⟨B3, 3, none⟩) (.inl rfl) _).setCell (p := ⟨B3, 4, none⟩) (.inl rfl) _) (fun q hq e => by
                  have := (own_lt HOWN.out hq).1
                  omega)) (by omega)
              clear o3 o4 g3 g4 HX2 HOWN HOB2 HOB d5 HSV HX
              rintro Y ⟨hRY, hFY, hmY, hzY, haY, hoY, hwY⟩
              have d3 := hRY.cells.2.2.2.1
              have f3 := hRY.free 3
              have hbY := hRY.lt
              have o4 := cell_blk hoY 4
              simp only [List.getElem?_cons_succ, List.getElem?_cons_zero] at o4
              have hoL := lt_blk hoY
              obtain ⟨tv, htv, hrun2⟩ := recs_take_slice (Sl.of_own hRY.own) (i - 1) (by omega) (by show i - 1 ≤ (r.log.length : Int); omega)
              change Sl Y _ 2 tv (r.log.take (i - 1).toNat).length (recsCells (r.log.take (i - 1).toNat)) at htv
              generalize htl : r.log.take (i - 1).toNat = tl at htv
              have hdt : tl.length = (i - 1).toNat := by rw [← htl, List.length_take]; omega
              have hdt4 : tl.length ≤ 4000 := by omega
              have HTL := Lib.hid htl
              have HDT := Lib.hid hdt
              clear htl hdt
              have hw1 : IntKind.i64.wrap (i - 1) = i - 1 := IntWalk.i64_in _ (by omega)
              have HRY := Lib.hid hRY
              have HFY := Lib.hid hFY
              have HMY := Lib.hid hmY
              have HZY := Lib.hid hzY
              have HAY := Lib.hid haY
              have HOY := Lib.hid hoY
              have HWY := Lib.hid hwY
              have HTV := Lib.hid htv
              clear hRY hFY hmY hzY haY hoY hwY htv
              go_region_law ((first
                | (refine step_append_sl rfl _ _ 35 (by rfl) (w.heap.size + 2) 55 _ 2 24 Try.underlying35 info55 rfl (by decide) _ tl.length (recsCells tl) (by rfl) (own_mono hown3 (by have := HFY.out.size; show w.heap.size + 2 ≤ Y.heap.size; omega)) (w.heap.size + 2 ≤ ·) _ xs.length (recsCells xs) (by rfl) ((Sl.of_own HWY.out).below hb3' (Nat.le_refl _)) (recsCells_one _) (by simp only [maxLen]; omega) (by omega) (by omega) ?_
                   intro v' w4 hown4 hg4 hat4
                   have hb4 : Below Y.heap.size Y w4 := hb3'.grown hg4 hs3 (fun q hq => (own_lt hown3 hq).1)
                   obtain ⟨A4, c4, rfl⟩ := own_form hown4
                   have d3' : w4.cell? ⟨b, 3, none⟩ = some (.slice A r.log.length cap) := (hb4.cell (p := ⟨b, 3, none⟩) hbY).trans d3
                   have f3' : w4.frozen? ⟨b, 3, none⟩ = false := (HRY.out.below hb4 (Nat.le_refl _)).free 3)
                | (go_simp
                   go_at_call 37
                   refine (clone_calls tv tl _ (HTV.out.below (Below.refl _ _).drew (Nat.le_refl _)) (by omega)).mono ?_
                   rintro e w3 ⟨tw, rfl, hown3, hb3⟩
                   have hb3' : Below Y.heap.size Y w3 := (Below.refl _ Y).drew.trans hb3
                   have hs3 := hb3'.size
                   have o4' : w3.cell? ⟨B3, 4, none⟩ = some (.slice rA xs.length rc) := (hb3'.cell (p := ⟨B3, 4, none⟩) hoL).trans o4
                   go_wp2_with fail)))
              all_goals (go_wp2_with fail; go_meet)
              all_goals
                have hL : (tl ++ xs).length = tl.length + xs.length := List.length_append
                have hown5 : w4.ownsRow (w.heap.size + 2) 55 2 (.slice A4 (tl ++ xs).length c4) (tl ++ xs).length (recsCells (tl ++ xs)) := by
                  rw [hL, recsCells_append]; exact hown4
                have hA4 : ∀ ad, A4 = some ad → w.heap.size + 2 ≤ ad.block := fun ad e => (own_lt hown5 (by rw [e]; rfl)).1
                have hA5 : ∀ ad, A4 = some ad → Y.heap.size ≤ ad.block := fun ad e => by
                  rw [e] at hat4
                  rcases hat4 with hq | hq
                  · exact (own_lt hown3 hq.symm).1
                  · have : ad.block = w3.heap.size := Option.some.inj hq
                    omega
                have hlx : m.index + (m.recs.length : Int) ≤ ((tl ++ xs).length : Int) ∧ (tl ++ xs).length ≤ 4000 ∧ r.commit ≤ ((tl ++ xs).length : Int) := by
                  have := HDT.out
                  have := HDL.out
                  have := HI.out
                  rw [hL]
                  omega
                have hso2 : M.sound (tl ++ xs) 1 r.hard.term = true := by
                  have hq := M.append_sound HH.out.wf.logOk HSO.out hi0 hp HP2.out
                  rw [HQ0.out] at hq
                  rw [← HTL.out, ← HXS.out, ← HI.out]
                  rw [show m.index + (k : Int) + 1 - 1 = m.index + (k : Int) from by omega]
                  exact hq
                rw [← hL]
                have hbb : b < w.heap.size := HH.out.lt
                have hans := HE2.out
                rw [HTL.out, HXS.out] at hans
                exact ⟨A4, c4, tl ++ xs, i, rA, xs, rc,
                  { rep := ⟨RepB.putLog (HRY.out.below hb4 (Nat.le_refl _)).toRepB (tl ++ xs) A4 c4 (own_mono hown5 (Nat.zero_le _)) (fun ad e => by have := hA4 ad e; omega), HH.out.wf.log hso2 hlx.2.1 hlx.2.2⟩
                    fresh := .inr (fun ad e => ⟨by have := hA4 ad e; omega, fun hq => by have h1 := (own_lt HWY.out hq).2; have h2 := hA5 ad e; omega⟩)
                    fr := (HFY.out.trans (Fr.of_below hb4)).setCell (.inl (.inl rfl)) _
                    msg := (other_blk (by show w.heap.size ≠ b; omega)).trans ((hb4.block _ (lt_blk HMY.out)).trans HMY.out)
                    res := (other_blk (by show w.heap.size + 1 ≠ b; omega)).trans ((hb4.block _ (lt_blk HZY.out)).trans HZY.out)
                    ans := (other_blk (by show B2 ≠ b; omega)).trans ((hb4.block _ (lt_blk HAY.out)).trans HAY.out)
                    out := (other_blk (by show B3 ≠ b; omega)).trans ((hb4.block _ (lt_blk HOY.out)).trans HOY.out)
                    recs := own_fr (own_below HWY.out hb4 (Nat.le_refl _)) (fr_setCell _ _ _) (fun q hq e => by
                      have h1 := (own_lt HWY.out hq).1
                      have h2 : q = b := e
                      omega)
                    bw := hbb
                    lt1 := hlt1
                    lt2 := hlt2
                    ans' := hans
                    len := hlx.1 }⟩
      · go_wp2_with fail
        go_meet
        obtain rfl : k = m.recs.length := by omega
        have hka2 : M.agree r.log m.index m.recs = m.recs.length := by omega
        have hE := HE.out
        rw [hka2, if_neg (Nat.lt_irrefl _)] at hE
        have hain := M.agree_in r.log m.index m.recs hi0 hp
        have hr := HU.out.below hbr
        exact ⟨A, cap, r.log, 0, none, [], 0, { rep := hr.rep, fresh := .inl rfl, fr := hr.fr, msg := hr.msg, res := hr.res, ans := hr.ans, out := hr.out, recs := World.ownsRow_nil _ _ _ _, bw := hr.bw, lt1 := hr.lt1, lt2 := hr.lt2, ans' := hE, len := by omega }⟩

theorem append_calls (h : RepOk w b r A cap) (m : Msg) (v : Value) (hs : Sl w (· ≠ b) 2 v m.recs.length (recsCells m.recs)) (hmt : m.term ≤ r.hard.term) (hi0 : 0 ≤ m.index) (hi4 : m.index + m.recs.length ≤ 4000) (hr8 : m.recs.length ≤ 8)
    (hso : M.sound m.recs (max 1 m.prev) m.term = true) (hc0 : 0 ≤ m.commit) :
    Calls Try.prog 44 #[.pointer (some ⟨b, 0, none⟩), msgVal m v] w (After w b A (M.append r m).1 (M.append r m).2) := by
  obtain ⟨mA, mc, rfl⟩ := Sl.form hs
  by_cases hlt : m.term < r.hard.term
  · exact append_calls_old h m _ mA mc hlt
  by_cases h2 : r.role = 2
  · exact append_calls_lead h m _ mA mc hlt h2
  by_cases hp : (r.log.length : Int) < m.index ∨ M.tm r.log m.index ≠ m.prev
  · exact append_calls_miss h m _ mA mc hlt h2 hi0 (by omega) hp
  · exact append_calls_go h m mA mc hs hlt h2 hi0 hi4 hr8 (by
      rcases Int.lt_or_le (r.log.length : Int) m.index with q | q
      · exact absurd (.inl q) hp
      · exact q) (Decidable.byContradiction fun q => hp (.inr q)) (M.sound_mono _ _ _ _ hmt hso) hc0
end
end Go.Proofs.Ytodmihpmbecncaa
