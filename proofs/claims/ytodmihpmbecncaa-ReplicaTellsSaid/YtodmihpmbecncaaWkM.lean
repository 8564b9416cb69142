/-
  The walk of replica.Hear: it computes what the model says.
-/
import Derived.Test.YtodmihpmbecncaaWkL
namespace Go.Proofs.Ytodmihpmbecncaa
open Go.RowKit

namespace M
/-- The replica at the term of a message. -/
def toTerm (r : Rep) (m : Msg) : Rep := if r.hard.term < m.term then { r with hard := ⟨m.term, -1⟩, role := 0 } else r
def act (r : Rep) (m : Msg) : Rep × Out := if m.kind = 0 then vote r m else if m.kind = 1 then voted r m else if m.kind = 2 then append r m else appended r m
def saved (h : Hard) (p : Rep × Out) : Rep × Out := (p.1, if p.1.hard ≠ h then { p.2 with save := true, hard := p.1.hard } else p.2)
theorem hear_eq (r : Rep) (m : Msg) (h : right r m = true) : hear r m = saved r.hard (act (toTerm r m) m) := by
  unfold hear saved act toTerm
  rw [if_neg (by rw [h]; decide)]
theorem WF.toTerm {r : Rep} (h : WF r) {m : Msg} (h1 : m.term ≤ 1099511627776) : WF (toTerm r m) := by
  unfold M.toTerm
  split
  · rename_i hlt
    exact { h with
      term0 := by have := h.term0; show 0 ≤ m.term; omega
      termM := h1
      vote0 := by show (-1 : Int) ≤ -1; omega
      vote2 := by show (-1 : Int) ≤ 2; omega
      logOk := sound_mono _ _ _ _ (Int.le_of_lt hlt) h.logOk
      role0 := Int.le_refl _
      role2 := by show (0 : Int) ≤ 2; omega
      nexts := fun (e : (0 : Int) = 2) => absurd e (by decide)
      mtchs := fun (e : (0 : Int) = 2) => absurd e (by decide) }
  · exact h
theorem toTerm_term (r : Rep) (m : Msg) : m.term ≤ (toTerm r m).hard.term := by
  unfold toTerm
  split
  · exact Int.le_refl _
  · rename_i h; omega
theorem toTerm_log (r : Rep) (m : Msg) : (toTerm r m).log = r.log := by unfold toTerm; split <;> rfl
end M

section
variable {w : World} {b : Nat} {r : Rep} {A : Option Addr} {cap : Nat}

/-- The four handlers in one. -/
theorem act_calls (h : RepOk w b r A cap) (m : Msg) (v : Value) (hs : Sl w (· ≠ b) 2 v m.recs.length (recsCells m.recs)) (hmt : m.term ≤ r.hard.term) (r0 : Rep) (hr : M.right r0 m = true) :
    ((m.kind == 0) = true ∧ Calls Try.prog 42 #[.pointer (some ⟨b, 0, none⟩), msgVal m v] w (After w b A (M.act r m).1 (M.act r m).2)) ∨
    (((m.kind == 0) = false ∧ (m.kind == 1) = true) ∧ Calls Try.prog 43 #[.pointer (some ⟨b, 0, none⟩), msgVal m v] w (After w b A (M.act r m).1 (M.act r m).2)) ∨
    (((m.kind == 0) = false ∧ (m.kind == 1) = false ∧ (m.kind == 2) = true) ∧ Calls Try.prog 44 #[.pointer (some ⟨b, 0, none⟩), msgVal m v] w (After w b A (M.act r m).1 (M.act r m).2)) ∨
    (((m.kind == 0) = false ∧ (m.kind == 1) = false ∧ (m.kind == 2) = false ∧ (m.kind == 3) = true) ∧ Calls Try.prog 45 #[.pointer (some ⟨b, 0, none⟩), msgVal m v] w (After w b A (M.act r m).1 (M.act r m).2)) := by
  obtain ⟨k, _, _, f, t, i, p, _, c, n, l, s⟩ := right_out hr
  obtain ⟨mA, mc, rfl⟩ := Sl.form hs
  have hk : m.kind = 0 ∨ m.kind = 1 ∨ m.kind = 2 ∨ m.kind = 3 := by omega
  rcases hk with e | e | e | e
  · have : M.act r m = M.vote r m := by unfold M.act; rw [if_pos e]
    rw [this]
    exact .inl ⟨by simp [e], vote_calls h m _ f.1 f.2 _ ⟨mA, mc, rfl⟩⟩
  · have : M.act r m = M.voted r m := by unfold M.act; rw [if_neg (by omega), if_pos e]
    rw [this]
    exact .inr (.inl ⟨by simp [e], voted_calls h m _ mA mc f.1 f.2⟩)
  · have : M.act r m = M.append r m := by unfold M.act; rw [if_neg (by omega), if_neg (by omega), if_pos e]
    rw [this]
    exact .inr (.inr (.inl ⟨by simp [e], append_calls h m _ hs hmt i.1 l n s c.1⟩))
  · have : M.act r m = M.appended r m := by unfold M.act; rw [if_neg (by omega), if_neg (by omega), if_neg (by omega)]
    rw [this]
    exact .inr (.inr (.inr ⟨by simp [e], appended_calls h m _ mA mc f.1 f.2 i.1 i.2⟩))

set_option maxRecDepth 4000 in
set_option maxHeartbeats 1600000 in
theorem hear_calls_no (h : RepOk w b r A cap) (m : Msg) (v : Value) (hs : Sl w (· ≠ b) 2 v m.recs.length (recsCells m.recs)) (hr : M.right r m = false) :
    Calls Try.prog 23 #[.pointer (some ⟨b, 0, none⟩), msgVal m v] w (After w b A (M.hear r m).1 (M.hear r m).2) := by
  have hE : M.hear r m = (r, M.noOut) := by unfold M.hear; rw [if_pos hr]
  have HE := Lib.hid hE
  clear hE
  have hb := h.lt
  have HH := Lib.hid h
  have HS := Lib.hid hs
  obtain ⟨mA, mc, rfl⟩ := Sl.form hs
  clear h hs
  unfold msgVal msgCells
  go_enter Try.func23, Try.ntmps23
  go_wp2_with fail
  show Calls Try.prog 41 #[_, msgVal m (.slice mA m.recs.length mc)] _ _
  refine (right_calls (r := r) (A := A) (cap := cap) (((HH.out.alloc _).alloc _).toRepB) m _ (HS.out.below (((Below.refl _ _).alloc (Nat.le_refl _) _).alloc (by simp) _) (Nat.le_refl _))).mono ?_
  rw [hr]
  rintro e w1 ⟨rfl, hb1⟩
  have hb1w : w.heap.size + 2 ≤ w1.heap.size := by have := hb1.size; simp at this; omega
  have HZ := Lib.hid ((hb1.block _ (by simp)).trans (heap_alloc2_new w (.cells (msgCells m (.slice mA m.recs.length mc)).toArray 37) (.cells #[.bool false, .int .i64 0, .int .i64 0, .int .i64 0, .slice none 0 0, .slice none 0 0] 45)))
  have HB1 := Lib.hid hb1
  clear hb1
  go_wp2_with (refine wpList_store_list rfl 45 (.tmp 4) (.tmp 11) rfl (w.heap.size + 1) _ rfl rfl 45 _ HZ.out 6 size45 rfl rfl rfl ?_)
  refine bodyPost_ret (v := _) (results_cell_row rfl _ _ (w.heap.size + 1) 45 _ (0, 0) _ rfl (setRow_heap _ _ _ _ _ _ HZ.out) Try.underlying45 rfl size45) rfl ?_
  rw [HE.out]
  exact after_setRow (o := M.noOut) (rv := .slice none 0 0) (sv := .slice none 0 0) (((HH.out.alloc _).alloc _).below HB1.out (Nat.le_refl _)) (.inl rfl) (OutOk.nil _ _) ((((Fr.refl _ w).alloc _).alloc _).trans (Fr.of_below HB1.out)) ⟨_, _, HZ.out⟩ (by omega) _

/-- The memory of Hear ahead of the handlers. -/
structure HearSt (w W : World) (b : Nat) (r1 : Rep) (h0 : Hard) (A : Option Addr) (cap : Nat) (m : Msg) (mA : Option Addr) (mc : Nat) (B2 B3 : Nat) : Prop where
  rep : RepOk W b r1 A cap
  fr : Fr (RepS b A) w W
  msg : W.heap[w.heap.size]? = some (.cells (msgCells m (.slice mA m.recs.length mc)).toArray 37)
  res : W.heap[w.heap.size + 1]? = some zOut
  old : W.heap[B2]? = some (.cells [.int .i64 h0.term, .int .i64 h0.vote].toArray 40)
  out : W.heap[B3]? = some zOut
  recs : Sl W (· ≠ b) 2 (.slice mA m.recs.length mc) m.recs.length (recsCells m.recs)
  lt1 : w.heap.size + 1 < B2
  lt2 : B2 < B3

/-- The memory of Hear behind the handlers. -/
structure HearEnd (w W : World) (b : Nat) (r2 : Rep) (h0 : Hard) (A A2 : Option Addr) (cap2 : Nat) (o : Out) (rv sv : Value) (B2 B3 : Nat) : Prop where
  rep : RepOk W b r2 A2 cap2
  fresh : FreshRow w W A A2 o rv sv
  fr : Fr (RepS b A) w W
  res : W.heap[w.heap.size + 1]? = some zOut
  old : W.heap[B2]? = some (.cells [.int .i64 h0.term, .int .i64 h0.vote].toArray 40)
  out : W.heap[B3]? = some (.cells [.bool o.save, .int .i64 o.hard.term, .int .i64 o.hard.vote, .int .i64 o.fr, rv, sv].toArray 45)
  ok : OutOk W w.heap.size o rv sv
  lt1 : w.heap.size + 1 < B2
  lt2 : B2 < B3

theorem OutOk.save {w : World} {base : Nat} {o : Out} {rv sv : Value} (h : OutOk w base o rv sv) {s : Bool} {hd : Hard} : OutOk w base { o with save := s, hard := hd } rv sv := ⟨h.recs, h.send⟩
theorem hear_keep {U w2 : World} {r1 : Rep} {h0 : Hard} {m : Msg} {mA : Option Addr} {mc B2 B3 : Nat} (hU : HearSt w U b r1 h0 A cap m mA mc B2 B3) (hb : b < w.heap.size) (hrow : ∀ ad, A = some ad → ad.block < w.heap.size) (hF : Fr (RepS b A) U w2) :
    w2.heap[w.heap.size + 1]? = some zOut ∧ w2.heap[B2]? = some (.cells [.int .i64 h0.term, .int .i64 h0.vote].toArray 40) ∧ w2.heap[B3]? = some zOut := by
  have hn : ∀ q, w.heap.size ≤ q → ¬ RepS b A q := by
    rintro q hq (rfl | ⟨ad, h1, h2⟩)
    · omega
    · have := hrow ad h1; omega
  have h1 := hU.lt1
  have h2 := hU.lt2
  exact ⟨(hF.block _ (lt_blk hU.res) (hn _ (by omega))).trans hU.res, (hF.block _ (lt_blk hU.old) (hn _ (by omega))).trans hU.old, (hF.block _ (lt_blk hU.out) (hn _ (by omega))).trans hU.out⟩
theorem hearEnd_of {U w2 : World} {r1 r2 : Rep} {h0 : Hard} {m : Msg} {mA A2 : Option Addr} {mc B2 B3 cap2 : Nat} {o : Out} {rv sv : Value} (hU : HearSt w U b r1 h0 A cap m mA mc B2 B3) (hb : b < w.heap.size) (hrow : ∀ ad, A = some ad → ad.block < w.heap.size)
    (hR : RepOk w2 b r2 A2 cap2) (hA : FreshRow U w2 A A2 o rv sv) (hO : OutOk w2 U.heap.size o rv sv) (hF : Fr (RepS b A) U w2) :
    HearEnd w (w2.setRow B3 #[.bool o.save, .int .i64 o.hard.term, .int .i64 o.hard.vote, .int .i64 o.fr, rv, sv]) b r2 h0 A A2 cap2 o rv sv B2 B3 := by
  obtain ⟨k1, k2, k3⟩ := hear_keep hU hb hrow hF
  have h1 := hU.lt1
  have h2 := hU.lt2
  have hs := hU.fr.size
  have hk : Kind w2 B3 45 := ⟨_, _, k3⟩
  refine { rep := hR.fr (fr_setRow _ _ _) ?_, fresh := hA.imp id (fun h ad e => ⟨by have := (h ad e).1; omega, (h ad e).2.1, (h ad e).2.2.fr (fr_setRow _ _ _) ?_⟩), fr := (hU.fr.trans hF).setRow (.inr (by omega)) _, res := (setRow_other _ _ _ _ (by omega)).trans k1, old := (setRow_other _ _ _ _ (by omega)).trans k2, out := setRow_heap _ _ _ _ _ _ k3, ok := ?_, lt1 := h1, lt2 := h2 }
  · rintro k (rfl | ⟨ad, h1, h2⟩) hq
    · exact hR.kind.ne hk (by decide) hq
    · exact (own_kind hR.own (k := ad.block) (by rw [h1]; rfl)).ne hk (by decide) (h2.trans hq)
  · have : OutOk (w2.setRow B3 #[.bool o.save, .int .i64 o.hard.term, .int .i64 o.hard.vote, .int .i64 o.fr, rv, sv]) U.heap.size o rv sv := hO.fr (fr_setRow _ _ _) (by
      rintro k _ (h1 | h1) hq
      · exact h1.ne hk (by decide) hq
      · exact h1.ne hk (by decide) hq)
    exact ⟨own_mono this.recs hs, this.send.mono hs⟩
  · rintro k _ (h1 | h1) hq
    · exact h1.ne hk (by decide) hq
    · exact h1.ne hk (by decide) hq

set_option maxRecDepth 4000 in
set_option maxHeartbeats 1600000 in
theorem hear_calls_yes (h : RepOk w b r A cap) (m : Msg) (v : Value) (hs : Sl w (· ≠ b) 2 v m.recs.length (recsCells m.recs)) (hr : M.right r m = true) :
    Calls Try.prog 23 #[.pointer (some ⟨b, 0, none⟩), msgVal m v] w (After w b A (M.hear r m).1 (M.hear r m).2) := by
  have HE := Lib.hid (M.hear_eq r m hr)
  have hb := h.lt
  have HH := Lib.hid h
  have HS := Lib.hid hs
  have HRT := Lib.hid hr
  have HT : Hid (1 ≤ m.term ∧ m.term ≤ 1099511627776) := (right_out hr).2.2.2.2.1
  obtain ⟨mA, mc, rfl⟩ := Sl.form hs
  clear h hs
  unfold msgVal msgCells
  go_enter Try.func23, Try.ntmps23
  go_wp2_with fail
  show Calls Try.prog 41 #[_, msgVal m (.slice mA m.recs.length mc)] _ _
  refine (right_calls (r := r) (A := A) (cap := cap) (((HH.out.alloc _).alloc _).toRepB) m _ (HS.out.below (((Below.refl _ _).alloc (Nat.le_refl _) _).alloc (by simp) _) (Nat.le_refl _))).mono ?_
  rw [hr]
  rintro e w1 ⟨rfl, hb1⟩
  have hb1w : w.heap.size + 2 ≤ w1.heap.size := by have := hb1.size; simp at this; omega
  have hw0 : w.heap.size < w1.heap.size := by omega
  have hw1 : w.heap.size + 1 < w1.heap.size := by omega
  have hz1 : w1.heap[w.heap.size + 1]? = some zOut := ((hb1.block (w.heap.size + 1) (by simp)).trans (heap_alloc2_new w (.cells (msgCells m (.slice mA m.recs.length mc)).toArray 37) (.cells #[.bool false, .int .i64 0, .int .i64 0, .int .i64 0, .slice none 0 0, .slice none 0 0] 45)))
  have hm1 : w1.heap[w.heap.size]? = some (.cells (msgCells m (.slice mA m.recs.length mc)).toArray 37) := (hb1.block _ (by simp; omega)).trans ((Below.heap_alloc _ _ _ (by simp)).trans (heap_alloc_new w _))
  have h1 := ((HH.out.alloc _).alloc _).below hb1 (Nat.le_refl _)
  have hbw01 : Below w.heap.size w w1 := (((Below.refl _ w).alloc (Nat.le_refl _) _).alloc (by simp) _).trans (hb1.mono (by simp; omega))
  have hs1 := HS.out.below hbw01 (Nat.le_refl _)
  obtain ⟨c0, c1, c2, c3, c4, _⟩ := h1.cells
  have f1 := h1.free 1
  have f2 := h1.free 2
  have f4 := h1.free 4
  have m3 := cell_blk hm1 3
  simp only [msgCells, List.getElem?_cons_succ, List.getElem?_cons_zero] at m3
  have hbw1 := h1.lt
  have HZ1 := Lib.hid hz1
  have HM1 := Lib.hid hm1
  have HB1 := Lib.hid hb1
  have H1 := Lib.hid h1
  have HS1 := Lib.hid hs1
  clear hb1 hz1 hm1 h1 hs1 hr HS
  go_upto_region 4 with fail
  by_cases hlt : r.hard.term < m.term
  all_goals
    go_region
    go_upto_region 7 with fail
    refine wp_world (fun W => HearSt w W b (M.toTerm r m) r.hard A cap m mA mc w1.heap.size (w1.heap.size + 1)) ?_ ?_
    · have hz2 := Below.heap_alloc w1 (.cells #[.int .i64 r.hard.term, .int .i64 r.hard.vote] 40)
      have hWF := HH.out.wf.toTerm HT.out.2
      first
        | (have hT : M.toTerm r m = r := if_neg (by omega)
           rw [hT] at hWF ⊢
           exact { rep := ((H1.out.alloc _).alloc _).drew
                   fr := ((((((Fr.refl _ w).alloc _).alloc _).trans (Fr.of_below HB1.out)).alloc _).alloc _).drew
                   msg := (Below.heap_alloc _ _ _ (by simp; omega)).trans ((Below.heap_alloc _ _ _ (by omega)).trans HM1.out)
                   res := (Below.heap_alloc _ _ _ (by simp; omega)).trans ((Below.heap_alloc _ _ _ (by omega)).trans HZ1.out)
                   old := (Below.heap_alloc _ _ _ (by simp)).trans (heap_alloc_new _ _)
                   out := heap_alloc2_new _ _ _
                   recs := HS1.out.below ((((Below.refl _ w1).alloc (Nat.le_refl _) _).alloc (by simp) _).drew) (Nat.le_refl _)
                   lt1 := hw1
                   lt2 := by omega })
        | (have hT : M.toTerm r m = { r with hard := ⟨m.term, -1⟩, role := 0 } := if_pos (by omega)
           rw [hT] at hWF ⊢
           have hne : ∀ (k : Nat) (i j l : Nat) (x y z : Value), k ≠ b → (((w1.setCell ⟨b, i, none⟩ x).setCell ⟨b, j, none⟩ y).setCell ⟨b, l, none⟩ z).heap[k]? = w1.heap[k]? := fun k i j l x y z hk => (other_blk hk).trans ((other_blk hk).trans (other_blk hk))
           exact { rep := ⟨((((((H1.out.toRepB.putTerm m.term).putVote (-1)).putRole 0).alloc _).alloc _).drew), hWF⟩
                   fr := ((((((((Fr.refl (RepS b A) w).alloc _).alloc _).trans (Fr.of_below HB1.out)).setCell (p := ⟨b, 1, none⟩) (.inl (.inl rfl)) _).setCell (p := ⟨b, 2, none⟩) (.inl (.inl rfl)) _).setCell (p := ⟨b, 4, none⟩) (.inl (.inl rfl)) _).alloc _).alloc _ |>.drew
                   msg := (Below.heap_alloc _ _ _ (by simp; omega)).trans ((Below.heap_alloc _ _ _ (by simp; omega)).trans ((hne _ _ _ _ _ _ _ (by omega)).trans HM1.out))
                   res := (Below.heap_alloc _ _ _ (by simp; omega)).trans ((Below.heap_alloc _ _ _ (by simp; omega)).trans ((hne _ _ _ _ _ _ _ (by omega)).trans HZ1.out))
                   old := by
                     have h1 := heap_alloc_new (((w1.setCell ⟨b, 1, none⟩ (.int .i64 m.term)).setCell ⟨b, 2, none⟩ (.int .i64 (-1))).setCell ⟨b, 4, none⟩ (.int .i64 0)) (.cells #[.int .i64 r.hard.term, .int .i64 r.hard.vote] 40)
                     simp only [World.size_setCell] at h1
                     exact (Below.heap_alloc _ _ _ (by simp)).trans h1
                   out := by
                     have h1 := heap_alloc2_new (((w1.setCell ⟨b, 1, none⟩ (.int .i64 m.term)).setCell ⟨b, 2, none⟩ (.int .i64 (-1))).setCell ⟨b, 4, none⟩ (.int .i64 0)) (.cells #[.int .i64 r.hard.term, .int .i64 r.hard.vote] 40) zOut
                     simp only [World.size_setCell] at h1
                     exact h1
                   recs := (HS1.out.fr (S := fun k => k = b) ((((((Fr.refl (fun k => k = b) w1).setCell (p := ⟨b, 1, none⟩) (.inl rfl) _).setCell (p := ⟨b, 2, none⟩) (.inl rfl) _).setCell (p := ⟨b, 4, none⟩) (.inl rfl) _).alloc _).alloc _ |>.drew) (fun k hk e => hk e))
                   lt1 := hw1
                   lt2 := by omega })
    clear c0 c1 c2 c3 c4 f1 f2 f4 m3 HM1 HZ1 HB1 H1 HS1
    have hB3' : w1.heap.size < w1.heap.size + 1 := by omega
    rintro U hU
    have hactU := act_calls hU.rep m _ hU.recs (M.toTerm_term r m) r HRT.out
    obtain ⟨r3, o3, hq3⟩ : ∃ r3 o3, M.act (M.toTerm r m) m = (r3, o3) := ⟨_, _, rfl⟩
    rw [hq3] at hactU
    have HQ3 := Lib.hid hq3
    clear hq3
    have HACT := Lib.hid hactU
    have HU := Lib.hid hU
    clear hactU
    have x0 := cell_blk hU.msg 0
    have x1 := cell_blk hU.msg 1
    have x2 := cell_blk hU.msg 2
    have x3 := cell_blk hU.msg 3
    have x4 := cell_blk hU.msg 4
    have x5 := cell_blk hU.msg 5
    have x6 := cell_blk hU.msg 6
    have x7 := cell_blk hU.msg 7
    have x8 := cell_blk hU.msg 8
    simp only [msgCells, List.getElem?_cons_succ, List.getElem?_cons_zero] at x0 x1 x2 x3 x4 x5 x6 x7 x8
    have hmU := lt_blk hU.msg
    clear hU
    generalize hB3 : w1.heap.size + 1 = B3 at *
    generalize hB2 : w1.heap.size = B2 at *
    clear hB3 hB2
    go_upto_block 0 with fail
    go_cut [] (fun wx => ∃ r2 o A2 cap2 rv sv, HearEnd w wx b r2 r.hard A A2 cap2 o rv sv B2 B3 ∧ M.act (M.toTerm r m) m = (r2, o))
    case rest =>
      clear HQ3
      obtain ⟨r2, o, A2, cap2, rv, sv, hV, hact⟩ := hcut
      obtain ⟨rA, rc, rfl⟩ := own_form hV.ok.recs
      obtain ⟨sA, sc, rfl⟩ := msgs_form hV.ok.send
      clear x0 x1 x2 x3 x4 x5 x6 x7 x8
      have hE := HE.out
      rw [hact] at hE
      have HE2 := Lib.hid hE
      clear hE HE hact HU HACT
      obtain ⟨_, c1, c2, _⟩ := hV.rep.cells
      have hbV := hV.rep.lt
      have y0 := cell_blk hV.old 0
      have y1 := cell_blk hV.old 1
      have x0 := cell_blk hV.out 0
      have x1 := cell_blk hV.out 1
      have x2 := cell_blk hV.out 2
      have x3 := cell_blk hV.out 3
      have x4 := cell_blk hV.out 4
      have x5 := cell_blk hV.out 5
      have g0 := free_blk hV.out 0
      have g1 := free_blk hV.out 1
      have g2 := free_blk hV.out 2
      simp only [List.getElem?_cons_succ, List.getElem?_cons_zero] at x0 x1 x2 x3 x4 x5 y0 y1
      have hoL := lt_blk hV.out
      have hyL := lt_blk hV.old
      have hzL := lt_blk hV.res
      have HV := Lib.hid hV
      clear hV
      have hd : (r2.hard = r.hard ∧ (r2.hard.term == r.hard.term) = true ∧ (r2.hard.vote == r.hard.vote) = true) ∨ (r2.hard ≠ r.hard ∧ (r2.hard.term == r.hard.term) = false) ∨ (r2.hard ≠ r.hard ∧ (r2.hard.term == r.hard.term) = true ∧ (r2.hard.vote == r.hard.vote) = false) := by
        by_cases h1 : r2.hard.term = r.hard.term
        · by_cases h2 : r2.hard.vote = r.hard.vote
          · refine .inl ⟨?_, by simpa using h1, by simpa using h2⟩
            cases hq : r2.hard
            cases hq' : r.hard
            rw [hq, hq'] at h1 h2
            simp only at h1 h2
            rw [h1, h2]
          · exact .inr (.inr ⟨fun e => h2 (by rw [e]), by simpa using h1, by simpa using h2⟩)
        · exact .inr (.inl ⟨fun e => h1 (by rw [e]), by simpa using h1⟩)
      go_upto_region 16 with fail
      rcases hd with ⟨q0, q1, q2⟩ | ⟨q0, q1⟩ | ⟨q0, q1, q2⟩
      · have hE := HE2.out
        unfold M.saved at hE
        simp only at hE
        rw [if_neg (fun q => q q0)] at hE
        have HE3 := Lib.hid hE
        clear q0 hE HE2
        go_region
        all_goals
          go_upto_region 18 with fail
          refine wp_world (fun V => RepOk V b r2 A2 cap2 ∧ Fr (RepS b A) w V ∧ V.heap[w.heap.size + 1]? = some zOut ∧ V.heap[B3]? = some (.cells [.bool o.save, .int .i64 o.hard.term, .int .i64 o.hard.vote, .int .i64 o.fr, .slice rA o.recs.length rc, .slice sA o.send.length sc].toArray 45) ∧ OutOk V w.heap.size o (.slice rA o.recs.length rc) (.slice sA o.send.length sc) ∧ FreshRow w V A A2 o (.slice rA o.recs.length rc) (.slice sA o.send.length sc))
            ⟨HV.out.rep.drew, HV.out.fr.drew, HV.out.res, HV.out.out, HV.out.ok.fr (S := fun _ => False) (Fr.refl _ _).drew (fun _ _ _ h => h), HV.out.fresh.imp id (fun h ad e => ⟨(h ad e).1, (h ad e).2.1, (h ad e).2.2.fr (S := fun _ => False) (Fr.refl _ _).drew (fun _ _ _ h => h)⟩)⟩ ?_
          rintro V ⟨hR, hF, hZ, hO, hK, hFrr⟩
          have HFRR := Lib.hid hFrr
          clear hFrr
          have z0 := cell_blk hO 0
          have z1 := cell_blk hO 1
          have z2 := cell_blk hO 2
          have z3 := cell_blk hO 3
          have z4 := cell_blk hO 4
          have z5 := cell_blk hO 5
          simp only [List.getElem?_cons_succ, List.getElem?_cons_zero] at z0 z1 z2 z3 z4 z5
          have HR := Lib.hid hR
          have HF := Lib.hid hF
          have HZ := Lib.hid hZ
          have HK := Lib.hid hK
          clear hR hF hZ hO hK
          go_wp2_with (refine wpList_store_list rfl 45 (.tmp 4) (.tmp 67) rfl (w.heap.size + 1) _ rfl rfl 45 _ HZ.out 6 size45 rfl rfl rfl ?_)
          refine bodyPost_ret (v := _) (results_cell_row rfl _ _ (w.heap.size + 1) 45 _ (0, 0) _ rfl (setRow_heap _ _ _ _ _ _ HZ.out) Try.underlying45 rfl size45) rfl ?_
          rw [HE3.out]
          exact after_setRow (o := o) HR.out HFRR.out HK.out HF.out ⟨_, _, HZ.out⟩ (by omega) _
      all_goals
        have hE := HE2.out
        unfold M.saved at hE
        simp only at hE
        rw [if_pos q0] at hE
        have HE3 := Lib.hid hE
        clear q0 hE HE2
        go_region
        all_goals go_upto_region 17 with fail
        all_goals go_region
        all_goals
          go_upto_region 18 with fail
          have hb2 : B3 ≠ b := by have := HH.out.lt; have := HV.out.lt1; have := HV.out.lt2; omega
          have hA2 : ∀ ad, A2 = some ad → ad.block ≠ B3 := fun ad e => (own_kind HV.out.rep.own (k := ad.block) (by rw [e]; rfl)).ne ⟨_, _, HV.out.out⟩ (by decide)
          have hB2 := HV.out.lt1
          have hB3 := HV.out.lt2
          refine wp_world (fun V => RepOk V b r2 A2 cap2 ∧ Fr (RepS b A) w V ∧ V.heap[w.heap.size + 1]? = some zOut ∧ V.heap[B3]? = some (.cells [.bool true, .int .i64 r2.hard.term, .int .i64 r2.hard.vote, .int .i64 o.fr, .slice rA o.recs.length rc, .slice sA o.send.length sc].toArray 45) ∧ OutOk V w.heap.size { o with save := true, hard := r2.hard } (.slice rA o.recs.length rc) (.slice sA o.send.length sc) ∧ FreshRow w V A A2 { o with save := true, hard := r2.hard } (.slice rA o.recs.length rc) (.slice sA o.send.length sc))
            ⟨(((HV.out.rep.far (a := ⟨B3, 0, none⟩) hb2 hA2 _).far (a := ⟨B3, 1, none⟩) hb2 hA2 _).far (a := ⟨B3, 2, none⟩) hb2 hA2 _).drew.drew,
             ((((HV.out.fr.setCell (p := ⟨B3, 0, none⟩) (.inr (by show w.heap.size ≤ B3; omega)) _).setCell (p := ⟨B3, 1, none⟩) (.inr (by show w.heap.size ≤ B3; omega)) _).setCell (p := ⟨B3, 2, none⟩) (.inr (by show w.heap.size ≤ B3; omega)) _).drew).drew,
             (other_blk (by show w.heap.size + 1 ≠ B3; omega)).trans ((other_blk (by show w.heap.size + 1 ≠ B3; omega)).trans ((other_blk (by show w.heap.size + 1 ≠ B3; omega)).trans HV.out.res)),
             set_blk (set_blk (set_blk HV.out.out 0 _) 1 _) 2 _, ?_, HV.out.fresh.imp id (fun h ad e => ⟨(h ad e).1, (h ad e).2.1, ?_⟩)⟩ ?_
          · refine OutOk.save (HV.out.ok.fr (S := fun k => k = B3) ((((((Fr.refl (fun k => k = B3) _).setCell (p := ⟨B3, 0, none⟩) (.inl rfl) _).setCell (p := ⟨B3, 1, none⟩) (.inl rfl) _).setCell (p := ⟨B3, 2, none⟩) (.inl rfl) _).drew).drew) (by
              rintro k _ (h1 | h1) hq
              · exact h1.ne ⟨_, _, HV.out.out⟩ (by decide) hq
              · exact h1.ne ⟨_, _, HV.out.out⟩ (by decide) hq))
          · refine (h ad e).2.2.fr (S := fun k => k = B3) ((((((Fr.refl (fun k => k = B3) _).setCell (p := ⟨B3, 0, none⟩) (.inl rfl) _).setCell (p := ⟨B3, 1, none⟩) (.inl rfl) _).setCell (p := ⟨B3, 2, none⟩) (.inl rfl) _).drew).drew) (by
              rintro k _ (h1 | h1) hq
              · exact h1.ne ⟨_, _, HV.out.out⟩ (by decide) hq
              · exact h1.ne ⟨_, _, HV.out.out⟩ (by decide) hq)
          rintro V ⟨hR, hF, hZ, hO, hK, hFrr⟩
          have HFRR := Lib.hid hFrr
          clear hFrr
          have z0 := cell_blk hO 0
          have z1 := cell_blk hO 1
          have z2 := cell_blk hO 2
          have z3 := cell_blk hO 3
          have z4 := cell_blk hO 4
          have z5 := cell_blk hO 5
          simp only [List.getElem?_cons_succ, List.getElem?_cons_zero] at z0 z1 z2 z3 z4 z5
          have HR := Lib.hid hR
          have HF := Lib.hid hF
          have HZ := Lib.hid hZ
          have HK := Lib.hid hK
          clear hR hF hZ hO hK
          go_wp2_with (refine wpList_store_list rfl 45 (.tmp 4) (.tmp 67) rfl (w.heap.size + 1) _ rfl rfl 45 _ HZ.out 6 size45 rfl rfl rfl ?_)
          refine bodyPost_ret (v := _) (results_cell_row rfl _ _ (w.heap.size + 1) 45 _ (0, 0) _ rfl (setRow_heap _ _ _ _ _ _ HZ.out) Try.underlying45 rfl size45) rfl ?_
          rw [HE3.out]
          exact after_setRow (o := { o with save := true, hard := r2.hard }) HR.out HFRR.out HK.out HF.out ⟨_, _, HZ.out⟩ (by omega) _
    case first =>
      rcases HACT.out with ⟨k0, hC⟩ | ⟨⟨k0, k1⟩, hC⟩ | ⟨⟨k0, k1, k2⟩, hC⟩ | ⟨⟨k0, k1, k2, k3⟩, hC⟩
      all_goals
        have HC := Lib.hid hC
        clear hC
        go_wp2_with fail
        refine HC.out.mono ?_
        rintro e w2 ⟨A2, cap2, rv, sv, rfl, hR, hA, hO, hF⟩
        obtain ⟨rA, rc, rfl⟩ := own_form hO.recs
        obtain ⟨sA, sc, rfl⟩ := msgs_form hO.send
        have HK := Lib.hid (hear_keep HU.out HH.out.lt HH.out.rowLt hF)
        have HEND := Lib.hid (hearEnd_of HU.out HH.out.lt HH.out.rowLt hR hA hO hF)
        have HZ3 := Lib.hid HK.out.2.2
        clear hR hA hO hF HK
        unfold outVal
        go_wp2_with (first | refine wpList_store_list rfl 45 (.tmp 6) (.tmp 39) rfl B3 _ rfl rfl 45 _ HZ3.out 6 size45 rfl rfl rfl ?_ | refine wpList_store_list rfl 45 (.tmp 6) (.tmp 44) rfl B3 _ rfl rfl 45 _ HZ3.out 6 size45 rfl rfl rfl ?_ | refine wpList_store_list rfl 45 (.tmp 6) (.tmp 49) rfl B3 _ rfl rfl 45 _ HZ3.out 6 size45 rfl rfl rfl ?_ | refine wpList_store_list rfl 45 (.tmp 6) (.tmp 54) rfl B3 _ rfl rfl 45 _ HZ3.out 6 size45 rfl rfl rfl ?_)
        go_meet
        exact ⟨_, _, _, _, _, _, HEND.out, HQ3.out⟩

theorem hear_calls (h : RepOk w b r A cap) (m : Msg) (v : Value) (hs : Sl w (· ≠ b) 2 v m.recs.length (recsCells m.recs)) :
    Calls Try.prog 23 #[.pointer (some ⟨b, 0, none⟩), msgVal m v] w (After w b A (M.hear r m).1 (M.hear r m).2) := by
  cases hr : M.right r m
  · exact hear_calls_no h m v hs hr
  · exact hear_calls_yes h m v hs hr
end
end Go.Proofs.Ytodmihpmbecncaa
