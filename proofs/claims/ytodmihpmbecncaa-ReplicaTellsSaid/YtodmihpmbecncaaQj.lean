/-
  The walk of the reference's append: it computes what the model says.
-/
import Derived.Test.YtodmihpmbecncaaQi
namespace Go.Proofs.Ytodmihpmbecncaa
open Go.RowKit

/-- The memory of the reference's append. -/
structure QaSt (w W : World) (b : Nat) (r1 : Rep) (A : Option Addr) (cap gv gn gm : Nat) (m : Msg) (mA : Option Addr) (mc : Nat) (a : Msg) (B2 : Nat) : Prop where
  rep : QOk W b r1 A cap gv gn gm
  fr : Fr (QS b A gv gn gm) w W
  msg : W.heap[w.heap.size]? = some (.cells (msgCells m (.slice mA m.recs.length mc)).toArray 37)
  res : W.heap[w.heap.size + 1]? = some zOut
  ans : W.heap[B2]? = some (.cells (msgCells a (.slice none 0 0)).toArray 37)
  recs : Sl W (fun k => ¬ QS b A gv gn gm k ∧ k < w.heap.size) 2 (.slice mA m.recs.length mc) m.recs.length (recsCells m.recs)
  lt1 : w.heap.size + 1 < B2

/-- The memory behind the writing of the log: the log is l, the result holds from FR on the entries xs. -/
structure QaEnd (w V : World) (b : Nat) (r : Rep) (A A' : Option Addr) (cap' gv gn gm : Nat) (l : List Rec) (FR : Int) (rA : Option Addr) (xs : List Rec) (rc : Nat) (m : Msg) (mA : Option Addr) (mc : Nat) (B2 B3 : Nat) : Prop where
  rep : QOk V b { r with role := 0, log := l } A' cap' gv gn gm
  new : ∀ k, QS b A' gv gn gm k → QS b A gv gn gm k ∨ w.heap.size ≤ k
  fr : Fr (QS b A gv gn gm) w V
  msg : V.heap[w.heap.size]? = some (.cells (msgCells m (.slice mA m.recs.length mc)).toArray 37)
  res : V.heap[w.heap.size + 1]? = some zOut
  ans : V.heap[B2]? = some (.cells (msgCells (M.message r 3 m.fr) (.slice none 0 0)).toArray 37)
  out : V.heap[B3]? = some (.cells [.bool false, .int .i64 0, .int .i64 0, .int .i64 FR, .slice rA xs.length rc, .slice none 0 0].toArray 45)
  recs : V.ownsRow w.heap.size 55 2 (.slice rA xs.length rc) xs.length (recsCells xs)
  lt1 : w.heap.size + 1 < B2
  lt2 : B2 < B3
  ans' : M.append r m = ({ r with role := 0, log := l, commit := max r.commit (min m.commit (m.index + m.recs.length)) }, { M.noOut with fr := FR, recs := xs, send := [{ M.message r 3 m.fr with yes := true, index := m.index + m.recs.length }] })
  len : m.index + m.recs.length ≤ (l.length : Int)

section
variable {w : World} {b : Nat} {r : Rep} {A : Option Addr} {cap gv gn gm : Nat}

theorem QB.putLog' (h : QB w b r A cap gv gn gm) (l : List Rec) (A' : Option Addr) (cap' : Nat) (ho : w.ownsRow 0 55 2 (.slice A' l.length cap') l.length (recsCells l)) :
    QB (w.setCell ⟨b, 3, none⟩ (.slice A' l.length cap')) b { r with log := l } A' cap' gv gn gm := h.putLog l A' cap' ho
theorem QaSt.fr' {S : Nat → Prop} {w W W' : World} {b : Nat} {r1 : Rep} {A : Option Addr} {cap gv gn gm : Nat} {m : Msg} {mA : Option Addr} {mc : Nat} {a : Msg} {B2 : Nat} (h : QaSt w W b r1 A cap gv gn gm m mA mc a B2) (hf : Fr S W W')
    (hS : ∀ k, S k → W.heap.size ≤ k) : QaSt w W' b r1 A cap gv gn gm m mA mc a B2 :=
  have hk : ∀ {k : Nat}, k < W.heap.size → ¬ S k := fun hk hs => by have := hS _ hs; omega
  { rep := h.rep.fr hf fun k q => hk (h.rep.ltS q)
    fr := h.fr.trans2 hf fun k q => .inr (by have := hS _ q; have := h.fr.size; omega)
    msg := (hf.block _ (lt_blk h.msg) (hk (lt_blk h.msg))).trans h.msg
    res := (hf.block _ (lt_blk h.res) (hk (lt_blk h.res))).trans h.res
    ans := (hf.block _ (lt_blk h.ans) (hk (lt_blk h.ans))).trans h.ans
    recs := h.recs.fr hf fun k q => hk (Nat.lt_of_lt_of_le q.2 h.fr.size)
    lt1 := h.lt1 }
theorem QaSt.below {w W W' : World} {b : Nat} {r1 : Rep} {A : Option Addr} {cap gv gn gm : Nat} {m : Msg} {mA : Option Addr} {mc : Nat} {a : Msg} {B2 : Nat} (h : QaSt w W b r1 A cap gv gn gm m mA mc a B2) (hb : Below W.heap.size W W') :
    QaSt w W' b r1 A cap gv gn gm m mA mc a B2 := h.fr' (S := fun _ => False) (Fr.of_below hb) (fun _ h => h.elim)
theorem QaSt.drewN {w W : World} {b : Nat} {r1 : Rep} {A : Option Addr} {cap gv gn gm : Nat} {m : Msg} {mA : Option Addr} {mc : Nat} {a : Msg} {B2 : Nat} (h : QaSt w W b r1 A cap gv gn gm m mA mc a B2) (n : Nat) :
    QaSt w (W.drewN n) b r1 A cap gv gn gm m mA mc a B2 := h.below (below_drewN (Below.refl _ _) _)
theorem QaSt.q3 {w W : World} {b : Nat} {r1 : Rep} {A : Option Addr} {cap gv gn gm : Nat} {m : Msg} {mA : Option Addr} {mc : Nat} {a : Msg} {B2 : Nat} (h : QaSt w W b r1 A cap gv gn gm m mA mc a B2) {k : Nat} {T : TypeId} (hk : Kind W k T) (hT : T ≠ 67) : k ≠ b := hk.ne h.rep.kind hT
/-- A cell of the replica is stored. -/
theorem QaSt.put {w W : World} {b : Nat} {r1 r2 : Rep} {A : Option Addr} {cap gv gn gm : Nat} {m : Msg} {mA : Option Addr} {mc : Nat} {a : Msg} {B2 : Nat} (h : QaSt w W b r1 A cap gv gn gm m mA mc a B2) {i : Nat} {v : Value} (hq : QOk (W.setCell ⟨b, i, none⟩ v) b r2 A cap gv gn gm) :
    QaSt w (W.setCell ⟨b, i, none⟩ v) b r2 A cap gv gn gm m mA mc a B2 where
  rep := hq
  fr := h.fr.setCell (p := ⟨b, i, none⟩) (.inl (.inl rfl)) _
  msg := (other_blk (h.q3 (T := 37) ⟨_, _, h.msg⟩ (by decide))).trans h.msg
  res := (other_blk (h.q3 (T := 45) ⟨_, _, h.res⟩ (by decide))).trans h.res
  ans := (other_blk (h.q3 (T := 37) ⟨_, _, h.ans⟩ (by decide))).trans h.ans
  recs := h.recs.fr (fr_setCell _ _ _) fun k q e => q.1 (.inl e)
  lt1 := h.lt1
/-- A cell of the answer is stored. -/
theorem QaSt.putA {w W : World} {b : Nat} {r1 : Rep} {A : Option Addr} {cap gv gn gm : Nat} {m : Msg} {mA : Option Addr} {mc : Nat} {a a' : Msg} {B2 : Nat} (h : QaSt w W b r1 A cap gv gn gm m mA mc a B2) {i : Nat} {v : Value} (hq : (msgCells a (.slice none 0 0)).set i v = msgCells a' (.slice none 0 0)) :
    QaSt w (W.setCell ⟨B2, i, none⟩ v) b r1 A cap gv gn gm m mA mc a' B2 where
  rep := h.rep.fr (fr_setCell _ _ _) fun k q e => h.rep.not45 q (T := 37) ⟨by decide, by decide, by decide, by decide⟩ (e ▸ ⟨_, _, h.ans⟩)
  fr := h.fr.setCell (p := ⟨B2, i, none⟩) (.inr (by have := h.lt1; show w.heap.size ≤ B2; omega)) _
  msg := (other_blk (by have := h.lt1; show w.heap.size ≠ B2; omega)).trans h.msg
  res := (other_blk (by have := h.lt1; show w.heap.size + 1 ≠ B2; omega)).trans h.res
  ans := by rw [← hq]; exact set_blk h.ans i v
  recs := h.recs.fr (fr_setCell _ _ _) fun k q e => by have := h.lt1; have := q.2; simp only at e; omega
  lt1 := h.lt1

theorem qterm_q2 (h : QOk w b r A cap gv gn gm) (n : Int) (h0 : 0 ≤ n) (hn : n ≤ r.log.length) (k : Nat) :
    Calls Try.prog 53 #[.pointer (some ⟨b, 0, none⟩), .int .i64 n] (w.drewN k) fun e w' => e = .returned (.int .i64 (M.tm r.log n)) ∧ w' = w.drewN k :=
  (qterm_calls (h.drewN k) n h0 hn).mono fun _ _ ⟨h1, h2⟩ => ⟨h1, h2.symm⟩

set_option maxRecDepth 10000 in
set_option maxHeartbeats 3200000 in
theorem qappend_calls (h : QOk w b r A cap gv gn gm) (m : Msg) (v : Value) (hs : Sl w (fun k => ¬ QS b A gv gn gm k) 2 v m.recs.length (recsCells m.recs)) (hmt : m.term ≤ r.hard.term) (hi0 : 0 ≤ m.index) (hi4 : m.index + m.recs.length ≤ 4000) (hr8 : m.recs.length ≤ 8)
    (hso : M.sound m.recs (max 1 m.prev) m.term = true) (_hc0 : 0 ≤ m.commit) :
    Calls Try.prog 49 #[.pointer (some ⟨b, 0, none⟩), msgVal m v] w (AfterQ w b A gv gn gm (M.append r m).1 (M.append r m).2) := by
  obtain ⟨mA, mc, rfl⟩ := Sl.form hs
  unfold msgVal msgCells
  have hb := h.lt
  have hlen := h.wf.len
  have HH := Lib.hid h
  have HS := Lib.hid (hs.mono (ok' := fun k => ¬ QS b A gv gn gm k ∧ k < w.heap.size) (fun k q1 q2 => ⟨q2, q1⟩))
  clear h hs
  go_enter Try.func49, Try.ntmps49
  go_wp2_with fail
  refine (qmessage_calls ((HH.out.alloc _).alloc _) 3 m.fr).mono ?_
  rintro e w1 ⟨rfl, hb1⟩
  have h1 := ((HH.out.alloc _).alloc _).below hb1 (Nat.le_refl _)
  have hb1w : w.heap.size + 2 ≤ w1.heap.size := by have := hb1.size; simp at this; omega
  have hw0 : w.heap.size < w1.heap.size := by omega
  have hw1 : w.heap.size + 1 < w1.heap.size := by omega
  have hm1 : w1.heap[w.heap.size]? = some (.cells (msgCells m (.slice mA m.recs.length mc)).toArray 37) := (hb1.block _ (by simp; omega)).trans ((Below.heap_alloc _ _ _ (by simp)).trans (heap_alloc_new w _))
  have hz1 : w1.heap[w.heap.size + 1]? = some zOut := (hb1.block _ (by simp)).trans (heap_alloc2_new w _ _)
  have hfw1 : Fr (QS b A gv gn gm) w w1 := (((Fr.refl _ w).alloc _).alloc _).trans (Fr.of_below hb1)
  have hSt : QaSt w (w1.alloc (.cells (msgCells (M.message r 3 m.fr) (.slice none 0 0)).toArray 37)) b r A cap gv gn gm m mA mc (M.message r 3 m.fr) w1.heap.size :=
    { rep := h1.alloc _
      fr := hfw1.alloc _
      msg := (Below.heap_alloc _ _ _ hw0).trans hm1
      res := (Below.heap_alloc _ _ _ hw1).trans hz1
      ans := heap_alloc_new w1 _
      recs := HS.out.fr (hfw1.alloc _) (fun k q e => q.1 e)
      lt1 := hw1 }
  have HSt := Lib.hid hSt
  clear h1 hm1 hz1 hfw1 hSt hb1
  unfold msgVal msgCells M.message
  go_upto_region 2 with fail
  refine wp_world (fun W => QaSt w W b r A cap gv gn gm m mA mc (M.message r 3 m.fr) w1.heap.size) HSt.out ?_
  clear HSt
  intro W hSt
  obtain ⟨c0, c1, c2, c3, c4, c5, _⟩ := hSt.rep.cells
  have f4 := hSt.rep.free 4
  have hbW := hSt.rep.lt
  have m1 := cell_blk hSt.msg 1
  have m3 := cell_blk hSt.msg 3
  have m4 := cell_blk hSt.msg 4
  have m5 := cell_blk hSt.msg 5
  simp only [msgCells, List.getElem?_cons_succ, List.getElem?_cons_zero] at m1 m3 m4 m5
  have hl0 := lt_blk hSt.msg
  have HSt := Lib.hid hSt
  clear hSt
  by_cases hlt : m.term < r.hard.term
  · have HR : Hid (M.append r m = (r, M.answer (M.message r 3 m.fr))) := by
      show _ = _
      unfold M.append
      rw [if_pos hlt]
    have d1 : decide (m.term < r.hard.term) = true := by simpa using hlt
    clear hmt
    go_quiet (fail)
    go_upto_region 3 with fail
    refine wp_world (fun U => QaSt w U b r A cap gv gn gm m mA mc (M.message r 3 m.fr) w1.heap.size) (HSt.out.drewN _) ?_
    clear HSt m1 m3 m4 m5 c0 c1 c2 c3 c4 c5 f4
    intro U hSt
    have x0 := cell_blk hSt.ans 0
    have x1 := cell_blk hSt.ans 1
    have x2 := cell_blk hSt.ans 2
    have x3 := cell_blk hSt.ans 3
    have x4 := cell_blk hSt.ans 4
    have x5 := cell_blk hSt.ans 5
    have x6 := cell_blk hSt.ans 6
    have x7 := cell_blk hSt.ans 7
    have x8 := cell_blk hSt.ans 8
    simp only [msgCells, M.message, List.getElem?_cons_succ, List.getElem?_cons_zero] at x0 x1 x2 x3 x4 x5 x6 x7 x8
    have HSt := Lib.hid (hSt.below ((Below.refl _ _).alloc (Nat.le_refl _) (.cells (msgCells (M.message r 3 m.fr) (.slice none 0 0)).toArray 37)))
    have HOK := Lib.hid (outOk_answer (w := U) (base := w.heap.size) (M.message r 3 m.fr) (.slice none 0 0) hSt.fr.size (World.ownsRow_nil _ _ _ _))
    clear hSt
    go_wp2_with (refine wpList_store_list rfl 45 (.tmp 4) (.tmp 24) rfl (w.heap.size + 1) _ rfl rfl 45 _ HSt.out.res 6 size45 rfl rfl rfl ?_)
    refine bodyPost_ret (v := _) (results_cell_row rfl _ _ (w.heap.size + 1) 45 _ (0, 0) _ rfl (setRow_heap _ _ _ _ _ _ HSt.out.res) Try.underlying45 rfl size45) rfl ?_
    rw [HR.out]
    exact afterq_setRow HSt.out.rep (fun k hk => .inl hk) HOK.out HSt.out.fr ⟨_, _, HSt.out.res⟩ (by omega) _
  have d1 : decide (m.term < r.hard.term) = false := by simpa using hlt
  go_quiet (fail)
  go_upto_region 4 with fail
  by_cases h2 : r.role = 2
  · have HR : Hid (M.append r m = (r, M.noOut)) := by
      show _ = _
      unfold M.append
      rw [if_neg hlt, if_pos h2]
    rw [h2] at c4
    go_upto_region 5 with fail
    refine wp_world (fun U => QaSt w U b r A cap gv gn gm m mA mc (M.message r 3 m.fr) w1.heap.size) (HSt.out.drewN _) ?_
    clear HSt m1 m3 m4 m5 c0 c1 c2 c3 c4 c5 f4
    intro U hSt
    have HSt := Lib.hid hSt
    clear hSt
    go_wp2_with (refine wpList_store_list rfl 45 (.tmp 4) (.tmp 30) rfl (w.heap.size + 1) _ rfl rfl 45 _ HSt.out.res 6 size45 rfl rfl rfl ?_)
    refine bodyPost_ret (v := _) (results_cell_row rfl _ _ (w.heap.size + 1) 45 _ (0, 0) _ rfl (setRow_heap _ _ _ _ _ _ HSt.out.res) Try.underlying45 rfl size45) rfl ?_
    rw [HR.out]
    exact afterq_setRow (o := M.noOut) (rv := .slice none 0 0) (sv := .slice none 0 0) HSt.out.rep (fun k hk => .inl hk) (OutOk.nil _ _) HSt.out.fr ⟨_, _, HSt.out.res⟩ (by omega) _
  have d2 : (r.role == 2) = false := by simpa using h2
  go_upto_region 7 with fail
  refine wp_world (fun U => QaSt w U b { r with role := 0 } A cap gv gn gm m mA mc (M.message r 3 m.fr) w1.heap.size) (QaSt.put (HSt.out.drewN _) ⟨(HSt.out.drewN _).rep.toQB.putRole 0, HH.out.wf.role0'⟩) ?_
  clear HSt m1 m3 m4 m5 c0 c1 c2 c3 c4 c5 f4 d1 d2
  intro U hSt
  obtain ⟨c0, c1, c2, c3, c4, c5, _⟩ := hSt.rep.cells
  have hbU := hSt.rep.lt
  have m4 := cell_blk hSt.msg 4
  have m5 := cell_blk hSt.msg 5
  simp only [msgCells, List.getElem?_cons_succ, List.getElem?_cons_zero] at m4 m5
  have hl0 := lt_blk hSt.msg
  by_cases hp : (r.log.length : Int) < m.index ∨ M.tm r.log m.index ≠ m.prev
  · have HR : Hid (M.append r m = ({ r with role := 0 }, M.answer { M.message r 3 m.fr with index := min (r.log.length : Int) (m.index - 1) })) := by
      show _ = _
      unfold M.append
      rw [if_neg hlt, if_neg h2, if_pos hp]
    have d3 : decide ((r.log.length : Int) < m.index) = true ∨ (decide ((r.log.length : Int) < m.index) = false ∧ m.index ≤ r.log.length ∧ (M.tm r.log m.index != m.prev) = true) := by
      by_cases q : (r.log.length : Int) < m.index
      · exact .inl (by simpa using q)
      · rcases hp with hp | hp
        · exact absurd hp q
        · exact .inr ⟨by simpa using q, by omega, by simpa using hp⟩
    have x4 := cell_blk hSt.ans 4
    have f4 := free_blk hSt.ans 4
    simp only [msgCells, M.message, List.getElem?_cons_succ, List.getElem?_cons_zero] at x4
    have hl2 := lt_blk hSt.ans
    have HSt := Lib.hid hSt
    clear hSt hp
    generalize hmn : min (r.log.length : Int) (m.index - 1) = mn at HR
    have HMN := Lib.hid hmn
    clear hmn
    have hi4' : m.index ≤ 4000 := by omega
    go_cut [50] (fun v1 wx => v1 = .bool true ∧ ∃ n, wx = U.drewN n)
    case first =>
      rcases d3 with d3 | ⟨d3, d4, d5⟩
      · go_quiet (fail)
        go_wp2_with fail
        go_meet
        exact ⟨rfl, _, rfl⟩
      · have hT : ∀ k, Calls Try.prog 53 #[.pointer (some ⟨b, 0, none⟩), .int .i64 m.index] (U.drewN k) fun e w' => e = .returned (.int .i64 (M.tm r.log m.index)) ∧ w' = U.drewN k := fun k => qterm_q2 HSt.out.rep m.index hi0 d4 k
        go_quiet ((go_at_call 53; exact Calls.quiet_of_same (hT _)))
        go_wp2_with fail
        go_meet
        exact ⟨rfl, _, rfl⟩
    case rest =>
    obtain ⟨rfl, nd, rfl⟩ := hcut
    go_upto_region 8 with fail
    refine wp_world (fun V => QaSt w V b { r with role := 0 } A cap gv gn gm m mA mc (M.message r 3 m.fr) w1.heap.size) (HSt.out.drewN _) ?_
    clear HSt x4 f4 c0 c1 c2 c3 c4 c5 m4 m5 hl2 hbU hl0
    intro V hSt
    obtain ⟨_, _, _, c3, _⟩ := hSt.rep.cells
    have hbV := hSt.rep.lt
    have m4 := cell_blk hSt.msg 4
    have x4 := cell_blk hSt.ans 4
    have f4 := free_blk hSt.ans 4
    simp only [msgCells, M.message, List.getElem?_cons_succ, List.getElem?_cons_zero] at m4 x4
    have hl0 := lt_blk hSt.msg
    have hl2 := lt_blk hSt.ans
    have HSt := Lib.hid hSt
    clear hSt
    go_region
    all_goals go_upto_region 9 with fail
    all_goals
      generalize hY : (if m.index - 1 < (r.log.length : Int) then m.index - 1 else (r.log.length : Int)) = Y
      have hif : Y = mn := by rw [← hY, ← HMN.out]; split <;> omega
      clear hY
      subst Y
      refine wp_world (fun X => QaSt w X b { r with role := 0 } A cap gv gn gm m mA mc { M.message r 3 m.fr with index := mn } w1.heap.size) (((HSt.out.putA (i := 4) (a' := { M.message r 3 m.fr with index := mn }) rfl)).below (below_drewN (Below.refl _ _) 1)) ?_
      clear HSt x4 f4 c3 m4 hl0 hl2 hbV
      intro X hSt
      have x0 := cell_blk hSt.ans 0
      have x1 := cell_blk hSt.ans 1
      have x2 := cell_blk hSt.ans 2
      have x3 := cell_blk hSt.ans 3
      have x4 := cell_blk hSt.ans 4
      have x5 := cell_blk hSt.ans 5
      have x6 := cell_blk hSt.ans 6
      have x7 := cell_blk hSt.ans 7
      have x8 := cell_blk hSt.ans 8
      simp only [msgCells, M.message, List.getElem?_cons_succ, List.getElem?_cons_zero] at x0 x1 x2 x3 x4 x5 x6 x7 x8
      have HSt := Lib.hid (hSt.below ((Below.refl _ _).alloc (Nat.le_refl _) (.cells (msgCells { M.message r 3 m.fr with index := mn } (.slice none 0 0)).toArray 37)))
      have HOK := Lib.hid (outOk_answer (w := X) (base := w.heap.size) { M.message r 3 m.fr with index := mn } (.slice none 0 0) hSt.fr.size (World.ownsRow_nil _ _ _ _))
      clear hSt
      go_wp2_with (refine wpList_store_list rfl 45 (.tmp 4) (.tmp 63) rfl (w.heap.size + 1) _ rfl rfl 45 _ HSt.out.res 6 size45 rfl rfl rfl ?_)
      refine bodyPost_ret (v := _) (results_cell_row rfl _ _ (w.heap.size + 1) 45 _ (0, 0) _ rfl (setRow_heap _ _ _ _ _ _ HSt.out.res) Try.underlying45 rfl size45) rfl ?_
      rw [HR.out]
      exact afterq_setRow HSt.out.rep (fun k hk => .inl hk) HOK.out HSt.out.fr ⟨_, _, HSt.out.res⟩ (by omega) _
  have hp1 : m.index ≤ (r.log.length : Int) := by
    rcases Int.lt_or_le (r.log.length : Int) m.index with q | q
    · exact absurd (.inl q) hp
    · exact q
  have hp2 : M.tm r.log m.index = m.prev := Decidable.byContradiction fun q => hp (.inr q)
  have HE := Lib.hid (append_eq hlt h2 hp1 hp2)
  have d3 : decide ((r.log.length : Int) < m.index) = false := by simpa using hp1
  have d5 : (M.tm r.log m.index != m.prev) = false := by simpa using hp2
  have HP2 := Lib.hid hp2
  have HSt := Lib.hid hSt
  clear hSt hp hp2
  have hT : ∀ k, Calls Try.prog 53 #[.pointer (some ⟨b, 0, none⟩), .int .i64 m.index] (U.drewN k) fun e w' => e = .returned (.int .i64 (M.tm r.log m.index)) ∧ w' = U.drewN k := fun k => qterm_q2 HSt.out.rep m.index hi0 hp1 k
  go_quiet ((go_at_call 53; exact Calls.quiet_of_same (hT _)))
  go_upto_region 10 with fail
  refine wp_world (fun X => QaSt w X b { r with role := 0 } A cap gv gn gm m mA mc (M.message r 3 m.fr) w1.heap.size) (HSt.out.drewN _) ?_
  clear HSt c0 c1 c2 c3 c4 c5 m4 m5 d3 d5 hT hl0 hbU
  intro X hSt
  have HSt := Lib.hid hSt
  clear hSt
  go_upto_block 0 with fail
  have hag8 := M.agree_le r.log m.index m.recs
  have hlX := lt_blk HSt.out.ans
  go_cut [7] (fun kv wx => kv = .int .i64 (M.agree r.log m.index m.recs : Nat) ∧ QaSt w wx b { r with role := 0 } A cap gv gn gm m mA mc (M.message r 3 m.fr) w1.heap.size ∧ wx.heap[X.heap.size]? = some zOut)
  case first =>
    go_wp2_with fail
    go_loopw [7] (fun kv wr => ∃ k : Nat, kv = .int .i64 k ∧ k ≤ M.agree r.log m.index m.recs ∧ QaSt w wr b { r with role := 0 } A cap gv gn gm m mA mc (M.message r 3 m.fr) w1.heap.size ∧ wr.heap[X.heap.size]? = some zOut) (fun kv _ => 9 - (intOf kv).toNat)
    case atStart => exact ⟨0, rfl, Nat.zero_le _, HSt.out.below ((Below.refl _ _).alloc (Nat.le_refl _) _), heap_alloc_new X _⟩
    case round =>
      obtain ⟨k, rfl, hk, hSt, hz⟩ := hrel
      obtain ⟨_, _, _, c3, _, _, _⟩ := hSt.rep.cells
      have hbr := hSt.rep.lt
      have m4 := cell_blk hSt.msg 4
      have m8 := cell_blk hSt.msg 8
      simp only [msgCells, List.getElem?_cons_succ, List.getElem?_cons_zero] at m4 m8
      have hl0 := lt_blk hSt.msg
      by_cases hkl : k < m.recs.length
      · have hag : M.agree r.log m.index m.recs = k + (if m.index + k + 1 ≤ r.log.length ∧ M.tm r.log (m.index + k + 1) = m.recs[k].term then M.agree r.log (m.index + k + 1) (m.recs.drop (k + 1)) + 1 else 0) := by
          rw [M.agree_at r.log m.recs m.index k hk, List.drop_eq_getElem_cons hkl, M.agree_cons]
        have hkI : (k : Int) < (m.recs.length : Int) := by omega
        have d1 : decide ((k : Int) < (m.recs.length : Int)) = true := by simpa using hkI
        by_cases hi : m.index + k + 1 ≤ (r.log.length : Int)
        · have d2 : decide (m.index + (k : Int) + 1 ≤ (r.log.length : Int)) = true := by simpa using hi
          have hmn : ¬ ((m.recs.length : Int) - 1 < (k : Int)) := by omega
          obtain ⟨bm, om, hmA, hcell⟩ : ∃ bm om, mA = some ⟨bm, om, none⟩ ∧ wr.cell? ⟨bm, om + k * 2, none⟩ = some (.int .i64 m.recs[k].term) := by
            obtain ⟨_, _, A', c', hA, _, _, h0 | ⟨bm, om, hAe, hok, hlt', hcell⟩⟩ := hSt.recs
            · omega
            · cases hA
              exact ⟨bm, om, hAe, (recs_get hcell k hkl).1⟩
          rw [hmA] at m8
          clear hmA
          have hbm : bm < wr.heap.size := World.block_lt_of_cell? wr _ hcell
          have hT : ∀ q, Calls Try.prog 53 #[.pointer (some ⟨b, 0, none⟩), .int .i64 (m.index + k + 1)] (wr.drewN q) fun e w' => e = .returned (.int .i64 (M.tm r.log (m.index + k + 1))) ∧ w' = wr.drewN q := fun q => qterm_q2 hSt.rep (m.index + k + 1) (by omega) hi q
          by_cases ht : M.tm r.log (m.index + k + 1) = m.recs[k].term
          · have d3 : (M.tm r.log (m.index + k + 1) == m.recs[k].term) = true := by simpa using ht
            rw [if_pos ⟨hi, ht⟩] at hag
            generalize m.recs[k].term = xt at *
            generalize M.tm r.log (m.index + k + 1) = tt at *
            have HT := Lib.hid hT
            have HSr := Lib.hid hSt
            have HZr := Lib.hid hz
            have HAG := Lib.hid hag
            clear ht hag hSt hz hT
            go_upto_region 12 with fail
            go_quiet ((go_at_call 53; exact Calls.quiet_of_same (HT.out _)))
            go_wp2_with fail
            go_roundw
            case rel => exact ⟨k + 1, by go_num, by rw [HAG.out]; omega, HSr.out.drewN _, HZr.out⟩
            case measure => simp [intOf]; omega
          · have d3 : (M.tm r.log (m.index + k + 1) == m.recs[k].term) = false := by simpa using ht
            rw [if_neg (fun q => ht q.2)] at hag
            generalize m.recs[k].term = xt at *
            generalize M.tm r.log (m.index + k + 1) = tt at *
            have HT := Lib.hid hT
            have HSr := Lib.hid hSt
            have HZr := Lib.hid hz
            have HAG := Lib.hid hag
            clear ht hag hSt hz hT
            go_upto_region 12 with fail
            go_quiet ((go_at_call 53; exact Calls.quiet_of_same (HT.out _)))
            go_wp2_with fail
            go_meet
            exact ⟨by rw [HAG.out]; rfl, HSr.out.drewN _, HZr.out⟩
        · have d2 : decide (m.index + (k : Int) + 1 ≤ (r.log.length : Int)) = false := by simpa using hi
          rw [if_neg (fun q => hi q.1)] at hag
          have HSr := Lib.hid hSt
          have HZr := Lib.hid hz
          have HAG := Lib.hid hag
          clear hag hSt hz
          go_upto_region 12 with fail
          go_quiet (fail)
          go_wp2_with fail
          go_meet
          exact ⟨by rw [HAG.out]; rfl, HSr.out.drewN _, HZr.out⟩
      · have hkI : ¬ (k : Int) < (m.recs.length : Int) := by omega
        have d1 : decide ((k : Int) < (m.recs.length : Int)) = false := by simpa using hkI
        have HSr := Lib.hid hSt
        have HZr := Lib.hid hz
        have hke : k = M.agree r.log m.index m.recs := by omega
        have HAG := Lib.hid hke
        clear hSt hz hke hkI
        go_upto_region 12 with fail
        go_quiet (fail)
        go_wp2_with fail
        go_meet
        exact ⟨by rw [← HAG.out], HSr.out.drewN _, HZr.out⟩
  case rest =>
  obtain ⟨rfl, hSt, hz⟩ := hcut
  have HSt := Lib.hid hSt
  have HZ3 := Lib.hid hz
  have hain := M.agree_in r.log m.index m.recs hi0 hp1
  have hsnd := M.append_sound HH.out.wf.logOk (M.sound_mono _ _ _ _ hmt hso) hi0 hp1 HP2.out
  generalize hka : M.agree r.log m.index m.recs = k at HE hag8 hain hsnd
  have HKA := Lib.hid hka
  have HSND := Lib.hid hsnd
  clear hSt hz hso hsnd
  have hbW := HSt.out.rep.lt
  have m4 := cell_blk HSt.out.msg 4
  have m8 := cell_blk HSt.out.msg 8
  simp only [msgCells, List.getElem?_cons_succ, List.getElem?_cons_zero] at m4 m8
  have hl0 := lt_blk HSt.out.msg
  have c5 := HSt.out.rep.cells.2.2.2.2.2.1
  have hoL := lt_blk HZ3.out
  go_upto_if 110 with (fail)
  go_cut [] (fun wx => ∃ A' cap' l FR rA xs rc, QaEnd w wx b r A A' cap' gv gn gm l FR rA xs rc m mA mc w1.heap.size X.heap.size)
  case first =>
    by_cases hkn : k < m.recs.length
    · have hkI : (k : Int) < (m.recs.length : Int) := by omega
      by_cases hc : m.index + (k : Int) + 1 ≤ r.commit
      · have HE2 : Hid (M.append r m = ({ r with role := 0 }, M.noOut)) := by
          have := HE.out
          rw [if_pos hkn, if_pos hc] at this
          exact this
        go_wp2_with (refine wpList_store_list rfl 45 (.tmp 4) (.tmp 122) rfl (w.heap.size + 1) _ rfl rfl 45 _ HSt.out.res 6 size45 rfl rfl rfl ?_)
        refine bodyPost_ret (v := _) (results_cell_row rfl _ _ (w.heap.size + 1) 45 _ (0, 0) _ rfl (setRow_heap _ _ _ _ _ _ HSt.out.res) Try.underlying45 rfl size45) rfl ?_
        rw [HE2.out]
        exact afterq_setRow (o := M.noOut) (rv := .slice none 0 0) (sv := .slice none 0 0) HSt.out.rep (fun k hk => .inl hk) (OutOk.nil _ _) HSt.out.fr ⟨_, _, HSt.out.res⟩ (by omega) _
      · have hE := HE.out
        rw [if_pos hkn, if_neg hc] at hE
        obtain ⟨sv, hsv, hrun⟩ := recs_drop_slice HSt.out.recs k (by omega)
        generalize hxs : m.recs.drop k = xs at hsv hE
        have hdl : xs.length = m.recs.length - k := by rw [← hxs, List.length_drop]
        have HE2 := Lib.hid hE
        have HSV := Lib.hid hsv
        have HXS := Lib.hid hxs
        have HDL := Lib.hid hdl
        have hdl8 : xs.length ≤ 8 := by omega
        have hlt1 := HSt.out.lt1
        clear hE hsv hxs hdl HE
        have hz := HZ3.out
        unfold zOut at hz
        have o3 := cell_blk (cs := [.bool false, .int .i64 0, .int .i64 0, .int .i64 0, .slice none 0 0, .slice none 0 0]) hz 3
        have g3 := free_blk (cs := [.bool false, .int .i64 0, .int .i64 0, .int .i64 0, .slice none 0 0, .slice none 0 0]) hz 3
        have o4 := cell_blk (cs := [.bool false, .int .i64 0, .int .i64 0, .int .i64 0, .slice none 0 0, .slice none 0 0]) hz 4
        have g4 := free_blk (cs := [.bool false, .int .i64 0, .int .i64 0, .int .i64 0, .slice none 0 0, .slice none 0 0]) hz 4
        simp only [List.getElem?_cons_succ, List.getElem?_cons_zero] at o3 o4
        have HZB := Lib.hid hz
        clear hz
        have hb3 : b < X.heap.size := by have := HSt.out.fr.size; have := HH.out.lt; omega
        have HNW : Hid (((wc.setCell ⟨X.heap.size, 3, none⟩ (.int .i64 (m.index + (k : Int) + 1))).alloc (.cells #[] 55)).ownsRow wc.heap.size 55 2 (.slice (some ⟨wc.heap.size, 0, none⟩) 0 0) 0 []) := by
          have := own_new (wc.setCell ⟨X.heap.size, 3, none⟩ (.int .i64 (m.index + (k : Int) + 1))) 55 2
          rw [World.size_setCell] at this
          exact this
        go_upto_region 20 with (at_builtin; refine wpList_append_sl _ rfl _ _ 35 rfl wc.heap.size 55 _ 2 24 Try.underlying35 info55 rfl (by decide) _ 0 [] rfl HNW.out (fun k => ¬ QS b A gv gn gm k ∧ k < w.heap.size) _ xs.length (recsCells xs) rfl (HSV.out.fr (((Fr.refl (fun k => k = X.heap.size) wc).setCell (p := ⟨X.heap.size, 3, none⟩) (.inl rfl) _).alloc _) (fun q h e => by have := h.2; omega)) (recsCells_one xs) ?_ ?_ ?_ ?_; rotate_left 3; intro v' w2 hown hg hat; rw [Nat.zero_add, List.nil_append] at hown; have hg : ((wc.setCell ⟨X.heap.size, 3, none⟩ (.int .i64 (m.index + (k : Int) + 1))).alloc (.cells #[] 55)).grownBy w2 (Value.slice (some ⟨wc.heap.size, 0, none⟩) 0 0).ownBlock := hg; have hB2 : Fr (fun q => q = X.heap.size) wc w2 := (((Fr.refl (fun q => q = X.heap.size) wc).setCell (p := ⟨X.heap.size, 3, none⟩) (.inl rfl) _).alloc _).grown hg (fun q hq => .inr (Nat.le_of_eq (Option.some.inj hq))); obtain ⟨rA, rc, rfl⟩ := own_form hown; have ho2 : w2.heap[X.heap.size]? = some (.cells [.bool false, .int .i64 0, .int .i64 0, .int .i64 (m.index + (k : Int) + 1), .slice none 0 0, .slice none 0 0].toArray 45) := (hg.block _ (by simp; omega) (fun e => by have : wc.heap.size = X.heap.size := (Option.some.inj e).symm; omega)).trans ((Below.heap_alloc _ _ _ (by simp; omega)).trans (set_blk HZB.out 3 _)); have p4 := cell_blk ho2 4; have pf4 := free_blk ho2 4; simp only [List.getElem?_cons_succ, List.getElem?_cons_zero] at p4; have HOWN := Lib.hid hown; have HB2 := Lib.hid hB2; have HO2 := Lib.hid ho2; clear hown hB2 ho2 hg hat)
        · have hbb : b < w.heap.size := HH.out.lt
          have hB3b : X.heap.size ≠ b := by omega
          have hB3w : w.heap.size + 1 < X.heap.size := by omega
          have hF2 : Fr (fun q => q = X.heap.size) wc (w2.setCell ⟨X.heap.size, 4, none⟩ (.slice rA xs.length rc)) := HB2.out.setCell (p := ⟨X.heap.size, 4, none⟩) (.inl rfl) _
          have hwcs := HSt.out.fr.size
          refine wp_world (fun Y => QOk Y b { r with role := 0 } A cap gv gn gm ∧ Fr (QS b A gv gn gm) w Y ∧ Y.heap[w.heap.size]? = some (.cells (msgCells m (.slice mA m.recs.length mc)).toArray 37) ∧ Y.heap[w.heap.size + 1]? = some zOut ∧
              Y.heap[w1.heap.size]? = some (.cells (msgCells (M.message r 3 m.fr) (.slice none 0 0)).toArray 37) ∧
              Y.heap[X.heap.size]? = some (.cells [.bool false, .int .i64 0, .int .i64 0, .int .i64 (m.index + (k : Int) + 1), .slice rA xs.length rc, .slice none 0 0].toArray 45) ∧
              Y.ownsRow w.heap.size 55 2 (.slice rA xs.length rc) xs.length (recsCells xs))
            ⟨HSt.out.rep.fr hF2 (fun q hq e => by have := HSt.out.rep.not45 hq (T := 45) ⟨by decide, by decide, by decide, by decide⟩; exact this (e ▸ ⟨_, _, HZB.out⟩)),
             HSt.out.fr.trans2 hF2 (fun q e => .inr (by omega)),
             (hF2.block _ hl0 (by omega)).trans HSt.out.msg,
             (hF2.block _ (by omega) (by omega)).trans HSt.out.res,
             (hF2.block _ (by omega) (by omega)).trans HSt.out.ans,
             set_blk HO2.out 4 _,
             own_mono (own_fr HOWN.out (fr_setCell _ _ _) (fun q hq e => (own_kind HOWN.out hq).ne ⟨_, _, HO2.out⟩ (by decide) e)) hwcs⟩ ?_
          clear p4 pf4 o3 g3 o4 g4 m4 m8 c5 hbW hl0 hoL hrun hF2 HB2 HOWN HO2 HZB HNW HSt HSV HZ3
          rintro Y ⟨hRY, hFY, hmY, hzY, haY, hoY, hwY⟩
          have d3 := hRY.cells.2.2.2.1
          have hbY := hRY.lt
          have o4 := cell_blk hoY 4
          simp only [List.getElem?_cons_succ, List.getElem?_cons_zero] at o4
          have hoL := lt_blk hoY
          obtain ⟨tv, htv, hrun2⟩ := recs_take_slice (Sl.of_own hRY.own) (m.index + (k : Int)) (by omega) (by show m.index + (k : Int) ≤ (r.log.length : Int); omega)
          change Sl Y _ 2 tv (r.log.take (m.index + (k : Int)).toNat).length (recsCells (r.log.take (m.index + (k : Int)).toNat)) at htv
          have HTE : Hid (m.index + (k : Int) + 1 - 1 = m.index + (k : Int)) := by show _ = _; omega
          generalize htl : r.log.take (m.index + (k : Int)).toNat = tl at htv
          have hdt : tl.length = (m.index + (k : Int)).toNat := by rw [← htl, List.length_take]; omega
          have hdt4 : tl.length ≤ 4000 := by omega
          have HTL := Lib.hid htl
          have HDT := Lib.hid hdt
          clear htl hdt
          have hrun2 : ∀ W, (Instr.slice 35 (.slice A r.log.length cap) none (some (.int .i64 (m.index + (k : Int)))) none).run Try.prog W = .ok tv W := hrun2
          have hwr1 : IntKind.i64.wrap (m.index + (k : Int)) = m.index + (k : Int) := IntWalk.i64_in _ (by omega)
          have HRY := Lib.hid hRY
          have HFY := Lib.hid hFY
          have HMY := Lib.hid hmY
          have HZY := Lib.hid hzY
          have HAY := Lib.hid haY
          have HOY := Lib.hid hoY
          have HWY := Lib.hid hwY
          have HTV := Lib.hid htv
          have hYw : w.heap.size ≤ Y.heap.size := hFY.size
          clear hRY hFY hmY hzY haY hoY hwY htv
          go_region_law ((first
            | (refine step_append_sl rfl _ _ 35 (by rfl) Y.heap.size 55 _ 2 24 Try.underlying35 info55 rfl (by decide) _ tl.length (recsCells tl) (by rfl) hown3 (w.heap.size ≤ ·) _ xs.length (recsCells xs) (by rfl) ((Sl.of_own HWY.out).below hb3' (Nat.le_refl _)) (recsCells_one _) (by simp only [maxLen]; omega) (by omega) hs3 ?_
               intro v' w4 hown4 hg4 hat4
               have hb4 : Below Y.heap.size Y w4 := hb3'.grown hg4 hs3 (fun q hq => (own_lt hown3 hq).1)
               obtain ⟨A4, c4, rfl⟩ := own_form hown4
               have d3' : w4.cell? ⟨b, 3, none⟩ = some (.slice A r.log.length cap) := (hb4.cell (p := ⟨b, 3, none⟩) hbY).trans d3
               have f3' : w4.frozen? ⟨b, 3, none⟩ = false := (HRY.out.below hb4 (Nat.le_refl _)).free 3)
            | (refine step_append_sl rfl _ _ 35 (by rfl) Y.heap.size 55 _ 2 24 Try.underlying35 info55 rfl (by decide) _ 0 [] (by rfl) (own_new Y.drew 55 2) (0 ≤ ·) _ tl.length (recsCells tl) (by rfl) (HTV.out.below (((Below.refl _ Y).drew).alloc (Nat.le_refl _) _) (Nat.le_refl _)) (recsCells_one _) (by simp only [maxLen]; omega) (by omega) (by simp) ?_
               intro v3 w3 hown3 hg3 hat3
               rw [Nat.zero_add, List.nil_append] at hown3
               have hg3 : (Y.drew.alloc (.cells #[] 55)).grownBy w3 (Value.slice (some ⟨Y.heap.size, 0, none⟩) 0 0).ownBlock := hg3
               have hb3' : Below Y.heap.size Y w3 := (((Below.refl _ Y).drew).alloc (Nat.le_refl _) _).grown hg3 (by simp) (fun q hq => Nat.le_of_eq (Option.some.inj hq))
               have hs3 := hb3'.size
               have o4' : w3.cell? ⟨X.heap.size, 4, none⟩ = some (.slice rA xs.length rc) := (hb3'.cell (p := ⟨X.heap.size, 4, none⟩) hoL).trans o4)))
          all_goals (go_wp2_with fail; go_meet)
          all_goals
            have hL : (tl ++ xs).length = tl.length + xs.length := List.length_append
            have hown5 : w4.ownsRow Y.heap.size 55 2 (.slice A4 (tl ++ xs).length c4) (tl ++ xs).length (recsCells (tl ++ xs)) := by
              rw [hL, recsCells_append]; exact hown4
            have hlx : m.index + (m.recs.length : Int) ≤ ((tl ++ xs).length : Int) ∧ (tl ++ xs).length ≤ 4000 ∧ r.commit ≤ ((tl ++ xs).length : Int) := by
              have := HDT.out
              have := HDL.out
              rw [hL]
              omega
            have hso2 : M.sound (tl ++ xs) 1 r.hard.term = true := by
              rw [← HTL.out, ← HXS.out]
              exact HSND.out
            have hans := HE2.out
            rw [HTE.out, HTL.out] at hans
            have hkb : ∀ {q T}, Kind w4 q T → T ≠ 67 → q ≠ b := fun hq hT => hq.ne (HRY.out.below hb4 (Nat.le_refl _)).kind hT
            refine ⟨A4, c4, tl ++ xs, m.index + (k : Int) + 1, rA, xs, rc, ?_⟩
            rw [← hL]
            exact { rep := ⟨QB.putLog' (HRY.out.below hb4 (Nat.le_refl _)).toQB (tl ++ xs) A4 c4 (own_mono hown5 (Nat.zero_le _)), HH.out.wf.log hso2 hlx.2.1 hlx.2.2⟩
                    new := by
                      rintro q (h | ⟨ad, h, rfl⟩ | h)
                      · exact .inl (.inl h)
                      · have := (own_lt hown5 (k := ad.block) (by rw [h]; rfl)).1; right; omega
                      · exact .inl (.inr (.inr h))
                    fr := (HFY.out.trans (Fr.of_below hb4)).setCell (p := ⟨b, 3, none⟩) (.inl (.inl rfl)) _
                    msg := (other_blk (by show w.heap.size ≠ b; omega)).trans ((hb4.block _ (lt_blk HMY.out)).trans HMY.out)
                    res := (other_blk (by show w.heap.size + 1 ≠ b; omega)).trans ((hb4.block _ (lt_blk HZY.out)).trans HZY.out)
                    ans := (other_blk (by show w1.heap.size ≠ b; omega)).trans ((hb4.block _ (lt_blk HAY.out)).trans HAY.out)
                    out := (other_blk hB3b).trans ((hb4.block _ (lt_blk HOY.out)).trans HOY.out)
                    recs := own_fr (own_below HWY.out hb4 (Nat.le_refl _)) (fr_setCell _ _ _) (fun q hq e => hkb (own_kind (own_below HWY.out hb4 (Nat.le_refl _)) hq) (by decide) e)
                    lt1 := hlt1
                    lt2 := by omega
                    ans' := hans
                    len := hlx.1 }
        · simp only [maxLen]; omega
        · omega
    · obtain rfl : k = m.recs.length := by omega
      have hE := HE.out
      rw [if_neg hkn] at hE
      have HE2 := Lib.hid hE
      have hkI : ¬ (m.recs.length : Int) < (m.recs.length : Int) := by omega
      have hz := HZ3.out
      have hX1 : w1.heap.size < X.heap.size := hlX
      clear hE
      go_wp2_with fail
      go_meet
      exact ⟨A, cap, r.log, 0, none, [], 0, { rep := HSt.out.rep, new := fun q h => .inl h, fr := HSt.out.fr, msg := HSt.out.msg, res := HSt.out.res, ans := HSt.out.ans, out := hz, recs := World.ownsRow_nil _ _ _ _, lt1 := HSt.out.lt1, lt2 := hX1, ans' := HE2.out, len := by omega }⟩
  case rest =>
  obtain ⟨A', cap', l, FR, rA, xs, rc, hEnd⟩ := hcut
  clear m4 m8 c5 hbW hl0 hoL HSt HZ3 HE hain HSND HKA hag8
  have hbV := hEnd.rep.lt
  have c5 := hEnd.rep.cells.2.2.2.2.2.1
  have f5 := hEnd.rep.free 5
  have m4 := cell_blk hEnd.msg 4
  have m6 := cell_blk hEnd.msg 6
  have m8 := cell_blk hEnd.msg 8
  simp only [msgCells, List.getElem?_cons_succ, List.getElem?_cons_zero] at m4 m6 m8
  have hl0 := lt_blk hEnd.msg
  have hcN := hEnd.rep.wf.commitN
  have hc0' := hEnd.rep.wf.commit0
  have HEnd := Lib.hid hEnd
  clear hEnd
  go_upto_region 22 with fail
  go_region
  all_goals go_upto_region 23 with fail
  all_goals
    generalize hC : (if r.commit < (if m.index + (m.recs.length : Int) < m.commit then m.index + (m.recs.length : Int) else m.commit) then (if m.index + (m.recs.length : Int) < m.commit then m.index + (m.recs.length : Int) else m.commit) else r.commit) = cv
    have hcv : cv = max r.commit (min m.commit (m.index + m.recs.length)) := by rw [← hC]; split <;> split <;> omega
    clear hC
    have hlenL := HEnd.out.len
    have hcNl : r.commit ≤ (l.length : Int) := hcN
    have hc0l : 0 ≤ r.commit := hc0'
    refine wp_world (fun V => QOk V b { r with role := 0, log := l, commit := cv } A' cap' gv gn gm ∧ Fr (QS b A gv gn gm) w V ∧ V.heap[w.heap.size + 1]? = some zOut ∧ V.heap[w1.heap.size]? = some (.cells (msgCells (M.message r 3 m.fr) (.slice none 0 0)).toArray 37) ∧
        V.heap[X.heap.size]? = some (.cells [.bool false, .int .i64 0, .int .i64 0, .int .i64 FR, .slice rA xs.length rc, .slice none 0 0].toArray 45) ∧ V.ownsRow w.heap.size 55 2 (.slice rA xs.length rc) xs.length (recsCells xs))
      ⟨⟨(HEnd.out.rep.toQB.putCommit cv).drew, HEnd.out.rep.wf.commit (by omega) (by show cv ≤ (l.length : Int); omega)⟩, (HEnd.out.fr.setCell (p := ⟨b, 5, none⟩) (.inl (.inl rfl)) _).drew,
        (other_blk (by have := HH.out.lt; show w.heap.size + 1 ≠ b; omega)).trans HEnd.out.res, (other_blk (by have := HH.out.lt; have := HEnd.out.lt1; show w1.heap.size ≠ b; omega)).trans HEnd.out.ans, (other_blk (by have := HH.out.lt; have := HEnd.out.lt1; have := HEnd.out.lt2; show X.heap.size ≠ b; omega)).trans HEnd.out.out,
        own_fr HEnd.out.recs ((fr_setCell _ _ _).drew) (fun q hq e => (own_kind HEnd.out.recs hq).ne HEnd.out.rep.kind (by decide) e)⟩ ?_
    have HAN := Lib.hid HEnd.out.ans'
    have HNEW := Lib.hid HEnd.out.new
    have hlt1 := HEnd.out.lt1
    have hlt2 := HEnd.out.lt2
    clear c5 f5 m4 m6 m8 hl0 hcN hc0' hbV HEnd
    rintro V ⟨hR, hF, hZ, hA, hO, hW⟩
    have x4 := cell_blk hA 4
    have x7 := cell_blk hA 7
    have f4 := free_blk hA 4
    have f7 := free_blk hA 7
    have m4 : (m.index + (m.recs.length : Int)) ≤ 4000 := hi4
    simp only [msgCells, List.getElem?_cons_succ, List.getElem?_cons_zero] at x4 x7
    have hl2 := lt_blk hA
    have hl3 := lt_blk hO
    have HR := Lib.hid hR
    have HF := Lib.hid hF
    have HZ := Lib.hid hZ
    have HA := Lib.hid hA
    have HO := Lib.hid hO
    have HW := Lib.hid hW
    clear hR hF hZ hA hO hW
    go_upto_region 25 with fail
    have hF2 : Fr (fun q => q = w1.heap.size) V ((V.setCell ⟨w1.heap.size, 7, none⟩ (.bool true)).setCell ⟨w1.heap.size, 4, none⟩ (.int .i64 (m.index + (m.recs.length : Int)))) := ((Fr.refl (fun q => q = w1.heap.size) V).setCell (p := ⟨w1.heap.size, 7, none⟩) (.inl rfl) _).setCell (p := ⟨w1.heap.size, 4, none⟩) (.inl rfl) _
    refine wp_world (fun Z => QOk Z b { r with role := 0, log := l, commit := cv } A' cap' gv gn gm ∧ Fr (QS b A gv gn gm) w Z ∧ Z.heap[w.heap.size + 1]? = some zOut ∧ Z.heap[w1.heap.size]? = some (.cells (msgCells { M.message r 3 m.fr with yes := true, index := m.index + m.recs.length } (.slice none 0 0)).toArray 37) ∧
        Z.heap[X.heap.size]? = some (.cells [.bool false, .int .i64 0, .int .i64 0, .int .i64 FR, .slice rA xs.length rc, .slice none 0 0].toArray 45) ∧ Z.ownsRow w.heap.size 55 2 (.slice rA xs.length rc) xs.length (recsCells xs))
      ⟨HR.out.fr hF2 (fun q hq e => HR.out.not45 hq (T := 37) ⟨by decide, by decide, by decide, by decide⟩ (e ▸ ⟨_, _, HA.out⟩)), HF.out.trans2 hF2 (fun q e => .inr (by omega)), (hF2.block _ (by omega) (by omega)).trans HZ.out, set_blk (set_blk HA.out 7 _) 4 _, (hF2.block _ hl3 (by omega)).trans HO.out, own_fr HW.out hF2 (fun q hq e => (own_kind HW.out hq).ne ⟨_, _, HA.out⟩ (by decide) e)⟩ ?_
    clear x4 x7 f4 f7 hl2 hl3 HR HF HZ HA HO HW hF2
    rintro Z ⟨hR, hF, hZ, hA, hO, hW⟩
    generalize ha : ({ M.message r 3 m.fr with yes := true, index := m.index + m.recs.length } : Msg) = a at hA HAN
    have harecs : a.recs = [] := by rw [← ha]; rfl
    have x0 := cell_blk hA 0
    have x1 := cell_blk hA 1
    have x2 := cell_blk hA 2
    have x3 := cell_blk hA 3
    have x4 := cell_blk hA 4
    have x5 := cell_blk hA 5
    have x6 := cell_blk hA 6
    have x7 := cell_blk hA 7
    have x8 := cell_blk hA 8
    have y0 := cell_blk hO 0
    have y1 := cell_blk hO 1
    have y2 := cell_blk hO 2
    have y3 := cell_blk hO 3
    have y4 := cell_blk hO 4
    have y5 := cell_blk hO 5
    have g5 := free_blk hO 5
    simp only [msgCells, List.getElem?_cons_succ, List.getElem?_cons_zero] at x0 x1 x2 x3 x4 x5 x6 x7 x8 y0 y1 y2 y3 y4 y5
    have hl2 := lt_blk hA
    have hl3 := lt_blk hO
    have hl1 := lt_blk hZ
    have hne31 : w.heap.size + 1 ≠ X.heap.size := by omega
    have HQ : Hid (((Z.setCell ⟨X.heap.size, 5, none⟩ (.slice (some ⟨Z.heap.size, 0, none⟩) 1 1)).alloc (.cells (msgCells a (.slice none 0 0)).toArray 37)).heap[w.heap.size + 1]? = some zOut) := (Below.heap_alloc _ _ _ (by simpa using hl1)).trans ((other_blk hne31).trans hZ)
    have hF3 : Fr (fun q => q = X.heap.size) Z ((Z.setCell ⟨X.heap.size, 5, none⟩ (.slice (some ⟨Z.heap.size, 0, none⟩) 1 1)).alloc (.cells (msgCells a (.slice none 0 0)).toArray 37)) := ((Fr.refl (fun q => q = X.heap.size) Z).setCell (p := ⟨X.heap.size, 5, none⟩) (.inl rfl) _).alloc _
    have HR := Lib.hid (hR.fr hF3 (fun q hq e => hR.not45 hq (T := 45) ⟨by decide, by decide, by decide, by decide⟩ (e ▸ ⟨_, _, hO⟩)))
    have HF := Lib.hid (hF.trans2 hF3 (fun q e => .inr (by omega)))
    have HW := Lib.hid (own_fr hW hF3 (fun q hq e => (own_kind hW hq).ne ⟨_, _, hO⟩ (by decide) e))
    have HM : Hid (MsgsOk ((Z.setCell ⟨X.heap.size, 5, none⟩ (.slice (some ⟨Z.heap.size, 0, none⟩) 1 1)).alloc (.cells (msgCells a (.slice none 0 0)).toArray 37)) w.heap.size (.slice (some ⟨Z.heap.size, 0, none⟩) 1 1) [a]) := by
      have h1 := own_one_msg (Z.setCell ⟨X.heap.size, 5, none⟩ (.slice (some ⟨Z.heap.size, 0, none⟩) 1 1)) a (.slice none 0 0)
      rw [World.size_setCell] at h1
      refine ⟨[(a, .slice none 0 0)], rfl, own_mono h1 hF.size, fun p hp => ?_⟩
      obtain rfl : p = (a, .slice none 0 0) := by simpa using hp
      show World.ownsRow _ _ _ _ _ a.recs.length (recsCells a.recs)
      rw [harecs]
      exact World.ownsRow_nil _ _ _ _
    clear ha harecs hR hF hZ hA hO hW hF3
    go_wp2_with (refine wpList_store_list rfl 45 (.tmp 4) (.tmp 171) rfl (w.heap.size + 1) _ rfl rfl 45 _ HQ.out 6 size45 rfl rfl rfl ?_)
    all_goals
      refine bodyPost_ret (v := _) (results_cell_row rfl _ _ (w.heap.size + 1) 45 _ (0, 0) _ rfl (setRow_heap _ _ _ _ _ _ HQ.out) Try.underlying45 rfl size45) rfl ?_
      rw [HAN.out, ← hcv]
      exact afterq_setRow HR.out HNEW.out ⟨HW.out, HM.out⟩ HF.out ⟨_, _, HQ.out⟩ (by omega) _
end
end Go.Proofs.Ytodmihpmbecncaa
