/-
  The walk of the reference's New: it computes what the model says.
-/
import Derived.Test.YtodmihpmbecncaaQg
import Derived.Test.YtodmihpmbecncaaRi
namespace Go.Proofs.Ytodmihpmbecncaa
open Go.RowKit

/-- What the reference's New leaves. -/
def NewPostQ (w : World) (id : Int) (h : Hard) (log : List Rec) (e : Ending) (w' : World) : Prop :=
  (M.new id h log = none ∧ e = .returned (.pointer none) ∧ Below w.heap.size w w') ∨
  (∃ r b A cap gv gn gm, M.new id h log = some r ∧ e = .returned (.pointer (some ⟨b, 0, none⟩)) ∧ QOk w' b r A cap gv gn gm ∧ (∀ k, QS b A gv gn gm k → w.heap.size ≤ k) ∧ Below w.heap.size w w')

def newLin (id : Int) (h : Hard) (log : List Rec) : Prop := 0 ≤ id ∧ id ≤ 2 ∧ 0 ≤ h.term ∧ h.term ≤ 1099511627776 ∧ -1 ≤ h.vote ∧ h.vote ≤ 2 ∧ log.length ≤ 4000
theorem new_ok {id : Int} {h : Hard} {log : List Rec} (h1 : newLin id h log) (h2 : M.sound log 1 h.term = true) : M.new id h log = some ⟨id, h, log, 0, 0, [false, false, false], [0, 0, 0], [0, 0, 0]⟩ ∧ M.WF ⟨id, h, log, 0, 0, [false, false, false], [0, 0, 0], [0, 0, 0]⟩ := by
  obtain ⟨a1, a2, a3, a4, a5, a6, a7⟩ := h1
  have k1 : M.between id 0 2 = true := by unfold M.between; simp; omega
  have k2 : M.between h.term 0 1099511627776 = true := by unfold M.between; simp; omega
  have k3 : M.between h.vote (-1) 2 = true := by unfold M.between; simp; omega
  refine ⟨?_, M.WF.new k1 k2 k3 a7 h2⟩
  unfold M.new
  rw [k1, k2, k3, h2, if_pos (by simp only [Bool.true_and, Bool.and_true, decide_eq_true_eq]; exact a7)]
theorem new_no {id : Int} {h : Hard} {log : List Rec} (hn : ¬ (newLin id h log ∧ M.sound log 1 h.term = true)) : M.new id h log = none := by
  unfold M.new
  rw [if_neg]
  intro hc
  simp only [M.between, Bool.and_eq_true, decide_eq_true_eq] at hc
  exact hn ⟨by unfold newLin; omega, hc.2⟩

theorem orD {D : Nat → Prop} {j i : Nat} {p : Prop} (hne : j ≠ i) (f : D j → p) : (j = i ∨ D j) → p := fun h => f (h.resolve_left hne)
/-- What holds of New's last region, whichever of its operations (D) have come up. -/
structure NwI (B : Nat) (id : Int) (h : Hard) (log : List Rec) (lv : Value) (D : Nat → Prop) (W : World) (v45 v46 v47 v48 v49 v50 v51 v52 v53 v54 v6 : Value) : Prop where
  f0 : D 0 → v45 = .int .i64 id
  f1 : D 1 → v46 = .agg #[.int .i64 h.term, .int .i64 h.vote]
  f2 : D 2 → ¬ D 4 → W.ownsRow B 55 2 v47 0 []
  f3 : D 3 → v48 = lv
  f4 : D 4 → W.ownsRow B 55 2 v49 log.length (recsCells log)
  f5 : D 5 → ∃ g, v50 = boxv g ∧ B ≤ g ∧ W.heap[g]? = some (.cells (bools [false, false, false]).toArray 4)
  f6 : D 6 → ∃ g, v51 = boxv g ∧ B ≤ g ∧ W.heap[g]? = some (.cells (ints [0, 0, 0]).toArray 3)
  f7 : D 7 → ∃ g, v52 = boxv g ∧ B ≤ g ∧ W.heap[g]? = some (.cells (ints [0, 0, 0]).toArray 3)
  f67 : D 6 → D 7 → v51 ≠ v52
  f8 : D 8 → v53 = .agg #[.int .i64 id, .int .i64 h.term, .int .i64 h.vote, v49, .int .i64 0, .int .i64 0, v50, v51, v52]
  f9 : D 9 → ∃ g, v54 = .pointer (some ⟨g, 0, none⟩) ∧ B ≤ g ∧ W.heap[g]? = some (.cells #[.int .i64 id, .int .i64 h.term, .int .i64 h.vote, v49, .int .i64 0, .int .i64 0, v50, v51, v52] 67)
  f10 : D 10 → v6 = v54
  c8 : D 8 → D 4 ∧ D 5 ∧ D 6 ∧ D 7
  c9 : D 9 → D 8
  c10 : D 10 → D 9
/-- Where only rows of entries are written, and new blocks are made. -/
theorem NwI.fr {S : Nat → Prop} {B : Nat} {id : Int} {h : Hard} {log : List Rec} {lv : Value} {D : Nat → Prop} {W W' : World} {v45 v46 v47 v48 v49 v50 v51 v52 v53 v54 v6 : Value} (I : NwI B id h log lv D W v45 v46 v47 v48 v49 v50 v51 v52 v53 v54 v6) (hf : Fr S W W') (hS : ∀ k, S k → Kind W k 55)
    (h2 : D 2 → ¬ D 4 → W'.ownsRow B 55 2 v47 0 []) (h4 : D 4 → W'.ownsRow B 55 2 v49 log.length (recsCells log)) : NwI B id h log lv D W' v45 v46 v47 v48 v49 v50 v51 v52 v53 v54 v6 := by
  have hk : ∀ {g : Nat} {cs : Array Value} {T : TypeId} {fr : Nat × Nat}, W.heap[g]? = some (Obj.cells cs T fr) → T ≠ 55 → W'.heap[g]? = some (Obj.cells cs T fr) := fun {g cs T fr} hg hT => by
    rw [hf.block g (lt_blk hg) (fun hs => Kind.ne ⟨_, _, hg⟩ (hS _ hs) hT rfl)]; exact hg
  exact { I with
    f2 := h2, f4 := h4
    f5 := fun d => by obtain ⟨g, a, b, c⟩ := I.f5 d; exact ⟨g, a, b, hk c (by decide)⟩
    f6 := fun d => by obtain ⟨g, a, b, c⟩ := I.f6 d; exact ⟨g, a, b, hk c (by decide)⟩
    f7 := fun d => by obtain ⟨g, a, b, c⟩ := I.f7 d; exact ⟨g, a, b, hk c (by decide)⟩
    f9 := fun d => by obtain ⟨g, a, b, c⟩ := I.f9 d; exact ⟨g, a, b, hk c (by decide)⟩ }
theorem NwI.alloc {B : Nat} {id : Int} {h : Hard} {log : List Rec} {lv : Value} {D : Nat → Prop} {W : World} {v45 v46 v47 v48 v49 v50 v51 v52 v53 v54 v6 : Value} (I : NwI B id h log lv D W v45 v46 v47 v48 v49 v50 v51 v52 v53 v54 v6) (o : Obj) : NwI B id h log lv D (W.alloc o) v45 v46 v47 v48 v49 v50 v51 v52 v53 v54 v6 :=
  I.fr (S := fun _ => False) ((Fr.refl _ W).alloc o) (fun _ h => h.elim) (fun d n => own_below (I.f2 d n) ((Below.refl _ W).alloc (Nat.le_refl _) o) (Nat.le_refl _)) (fun d => own_below (I.f4 d) ((Below.refl _ W).alloc (Nat.le_refl _) o) (Nat.le_refl _))

set_option maxRecDepth 10000 in
set_option maxHeartbeats 1600000 in
theorem qnew_calls {ok : Nat → Prop} {w : World} (id : Int) (h : Hard) (log : List Rec) (v : Value) (hs : Sl w ok 2 v log.length (recsCells log)) :
    Calls Try.prog 22 #[.int .i64 id, .agg #[.int .i64 h.term, .int .i64 h.vote], v] w (NewPostQ w id h log) := by
  obtain ⟨lA, lc, rfl⟩ := Sl.form hs
  have hlen := hs.2.1
  have HS := Lib.hid hs
  clear hs
  have HS1 := Lib.hid (HS.out.below (w' := w.alloc (.cells #[.int .i64 h.term, .int .i64 h.vote] 40)) ((Below.refl w.heap.size w).alloc (Nat.le_refl _) _) (Nat.le_refl _))
  go_enter Try.func22, Try.ntmps22
  go_upto_region 1 with fail
  go_cut [44] (fun v1 wx => ∃ q : Bool, v1 = .bool q ∧ (q = false ↔ newLin id h log ∧ M.sound log 1 h.term = true) ∧ Below w.heap.size w wx ∧ wx.heap[w.heap.size]? = some (.cells [.int .i64 h.term, .int .i64 h.vote].toArray 40))
  case first =>
    go_wp2_with (first | (go_at_call 40; refine (qsound_calls (ok := ok) _ log _ _ _ HS1.out).mono ?_; rintro e w2 ⟨rfl, hb2⟩))
    all_goals go_meet
    all_goals
      clear HS1 HS
      first
        | (refine ⟨_, rfl, ?_, (Below.refl w.heap.size w).alloc (Nat.le_refl _) _, heap_alloc_new w _⟩
           exact iff_of_false (by simp) (fun hh => by have := hh.1; unfold newLin at this; omega))
        | (refine ⟨_, rfl, ?_, ((Below.refl w.heap.size w).alloc (Nat.le_refl _) _).trans (hb2.mono (by simp)), (hb2.block _ (by simp)).trans (heap_alloc_new w _)⟩
           have hlin : newLin id h log := by unfold newLin; omega
           cases hsb : M.sound log 1 h.term
           · exact iff_of_false (by simp) (fun hh => by cases hh.2)
           · refine iff_of_true ?_ ⟨hlin, rfl⟩
             unfold newLin at hlin
             simp only [Bool.or_eq_false_iff, decide_eq_false_iff_not, Bool.not_true, and_true]
             omega)
  case rest =>
  obtain ⟨q, rfl, hq, hbx, hblk⟩ := hcut
  cases q
  · obtain ⟨hn1, hw⟩ := new_ok (hq.1 rfl).1 (hq.1 rfl).2
    have hl4 : log.length ≤ 4000 := hw.len
    clear hq
    have HW := Lib.hid hw
    have HN1 := Lib.hid hn1
    have HB0 := Lib.hid hbx
    have HBK := Lib.hid hblk
    have HS2 := Lib.hid (HS.out.below hbx (Nat.le_refl _))
    have hL := lt_blk hblk
    clear hw hn1 hbx hblk
    go_upto_region 3 with fail
    have x0 := cell_blk HBK.out 0
    have x1 := cell_blk HBK.out 1
    simp only [List.getElem?_cons_succ, List.getElem?_cons_zero] at x0 x1
    refine wp_region_inv (fun D a W => Below wc.heap.size wc W ∧ ∃ v45 v46 v47 v48 v49 v50 v51 v52 v53 v54 v6, a = (⟨#[.int .i64 id, .agg #[.int .i64 h.term, .int .i64 h.vote], .slice lA log.length lc, undef, .pointer (some ⟨w.heap.size, 0, none⟩), undef, v6, u7, u8, u9, u10, u11, u12, u13, u14, u15, u16, u17, u18, u19, u20, u21, u22, u23, u24, u25, u26, u27, u28, u29, u30, u31, u32, u33, u34, u35, u36, u37, u38, u39, u40, u41, u42, u43, .bool false, v45, v46, v47, v48, v49, v50, v51, v52, v53, v54], []⟩ : Act) ∧ NwI wc.heap.size id h log (.slice lA log.length lc) D W v45 v46 v47 v48 v49 v50 v51 v52 v53 v54 v6) (by kernel_rfl) (by kernel_rfl) ?_ ?_ ?_
    · exact ⟨(Below.refl _ wc).drew, u45, u46, u47, u48, u49, u50, u51, u52, u53, u54, .pointer none, rfl, ⟨fun h => h.elim, fun h => h.elim, fun h => h.elim, fun h => h.elim, fun h => h.elim, fun h => h.elim, fun h => h.elim, fun h => h.elim, fun h => h.elim, fun h => h.elim, fun h => h.elim, fun h => h.elim, fun h => h.elim, fun h => h.elim, fun h => h.elim⟩⟩
    · intro D a W i o ho hI hnD hd K hK
      obtain ⟨hbW, v45, v46, v47, v48, v49, v50, v51, v52, v53, v54, v6, rfl, I⟩ := hI
      have hi : i < 11 := (Array.getElem?_eq_some_iff.1 ho).1
      have hi' : i = 0 ∨ i = 1 ∨ i = 2 ∨ i = 3 ∨ i = 4 ∨ i = 5 ∨ i = 6 ∨ i = 7 ∨ i = 8 ∨ i = 9 ∨ i = 10 := by omega
      rcases hi' with rfl | rfl | rfl | rfl | rfl | rfl | rfl | rfl | rfl | rfl | rfl
      all_goals obtain rfl := Option.some.inj ho
      all_goals clear ho hi
      · go_simp
        exact hK.out _ _ ⟨hbW, _, _, _, _, _, _, _, _, _, _, _, rfl, { f0 := fun _ => rfl, f1 := orD (by decide) I.f1, f3 := orD (by decide) I.f3, f4 := orD (by decide) I.f4, f5 := orD (by decide) I.f5, f6 := orD (by decide) I.f6, f7 := orD (by decide) I.f7, f10 := orD (by decide) I.f10, f2 := fun d n => I.f2 (d.resolve_left (by decide)) (fun h => n (.inr h)), f67 := fun d e => I.f67 (d.resolve_left (by decide)) (e.resolve_left (by decide)), f8 := orD (by decide) I.f8, f9 := orD (by decide) I.f9, c8 := fun d => by obtain ⟨a, b, c, e⟩ := I.c8 (d.resolve_left (by decide)); exact ⟨.inr a, .inr b, .inr c, .inr e⟩, c9 := fun d => .inr (I.c9 (d.resolve_left (by decide))), c10 := fun d => .inr (I.c10 (d.resolve_left (by decide))) }⟩
      · have y0 := (hbW.cell (p := ⟨w.heap.size, 0, none⟩) hL).trans x0
        have y1 := (hbW.cell (p := ⟨w.heap.size, 1, none⟩) hL).trans x1
        go_simp
        exact hK.out _ _ ⟨hbW, _, _, _, _, _, _, _, _, _, _, _, rfl, { f0 := orD (by decide) I.f0, f1 := fun _ => rfl, f3 := orD (by decide) I.f3, f4 := orD (by decide) I.f4, f5 := orD (by decide) I.f5, f6 := orD (by decide) I.f6, f7 := orD (by decide) I.f7, f10 := orD (by decide) I.f10, f2 := fun d n => I.f2 (d.resolve_left (by decide)) (fun h => n (.inr h)), f67 := fun d e => I.f67 (d.resolve_left (by decide)) (e.resolve_left (by decide)), f8 := orD (by decide) I.f8, f9 := orD (by decide) I.f9, c8 := fun d => by obtain ⟨a, b, c, e⟩ := I.c8 (d.resolve_left (by decide)); exact ⟨.inr a, .inr b, .inr c, .inr e⟩, c9 := fun d => .inr (I.c9 (d.resolve_left (by decide))), c10 := fun d => .inr (I.c10 (d.resolve_left (by decide))) }⟩
      · go_simp
        have I2 := I.alloc (.cells #[] 55)
        exact hK.out _ _ ⟨hbW.alloc hbW.size _, _, _, _, _, _, _, _, _, _, _, _, rfl, { f0 := orD (by decide) I2.f0, f1 := orD (by decide) I2.f1, f3 := orD (by decide) I2.f3, f4 := orD (by decide) I2.f4, f5 := orD (by decide) I2.f5, f6 := orD (by decide) I2.f6, f7 := orD (by decide) I2.f7, f10 := orD (by decide) I2.f10, f2 := fun _ _ => own_mono (own_new W 55 2) hbW.size, f67 := fun d e => I2.f67 (d.resolve_left (by decide)) (e.resolve_left (by decide)), f8 := orD (by decide) I2.f8, f9 := orD (by decide) I2.f9, c8 := fun d => by obtain ⟨a, b, c, e⟩ := I2.c8 (d.resolve_left (by decide)); exact ⟨.inr a, .inr b, .inr c, .inr e⟩, c9 := fun d => .inr (I2.c9 (d.resolve_left (by decide))), c10 := fun d => .inr (I2.c10 (d.resolve_left (by decide))) }⟩
      · go_simp
        exact hK.out _ _ ⟨hbW, _, _, _, _, _, _, _, _, _, _, _, rfl, { f0 := orD (by decide) I.f0, f1 := orD (by decide) I.f1, f3 := fun _ => rfl, f4 := orD (by decide) I.f4, f5 := orD (by decide) I.f5, f6 := orD (by decide) I.f6, f7 := orD (by decide) I.f7, f10 := orD (by decide) I.f10, f2 := fun d n => I.f2 (d.resolve_left (by decide)) (fun h => n (.inr h)), f67 := fun d e => I.f67 (d.resolve_left (by decide)) (e.resolve_left (by decide)), f8 := orD (by decide) I.f8, f9 := orD (by decide) I.f9, c8 := fun d => by obtain ⟨a, b, c, e⟩ := I.c8 (d.resolve_left (by decide)); exact ⟨.inr a, .inr b, .inr c, .inr e⟩, c9 := fun d => .inr (I.c9 (d.resolve_left (by decide))), c10 := fun d => .inr (I.c10 (d.resolve_left (by decide))) }⟩
      · have d2 := I.f2 (hd 2 (of_decide_eq_true (by kernel_rfl))) hnD
        have d3 := I.f3 (hd 3 (of_decide_eq_true (by kernel_rfl)))
        subst d3
        have hs48 : Sl W ok 2 (.slice lA log.length lc) log.length (recsCells log) := HS2.out.below hbW (Nat.le_refl _)
        refine step_append_sl rfl _ _ 35 (by rfl) wc.heap.size 55 _ 2 24 Try.underlying35 info55 rfl (by decide) _ 0 [] (by rfl) d2 ok _ log.length (recsCells log) (by rfl) hs48 (recsCells_one log) (by simp only [maxLen]; omega) (by omega) hbW.size ?_
        intro v' w2 hown hg hat
        rw [Nat.zero_add, List.nil_append] at hown
        have hF : Fr (fun q => v47.ownBlock = some q) W w2 := (Fr.refl _ W).grown hg (fun q hq => .inl hq)
        have hB : Below wc.heap.size wc w2 := hbW.grown hg hbW.size (fun q hq => (own_lt d2 hq).1)
        have I2 : NwI wc.heap.size id h log (.slice lA log.length lc) (fun j => j ≠ 2 ∧ D j) w2 v45 v46 v47 (.slice lA log.length lc) v49 v50 v51 v52 v53 v54 v6 := by
          have I1 : NwI wc.heap.size id h log (.slice lA log.length lc) (fun j => j ≠ 2 ∧ D j) W v45 v46 v47 (.slice lA log.length lc) v49 v50 v51 v52 v53 v54 v6 :=
            { f0 := fun d => I.f0 d.2, f1 := fun d => I.f1 d.2, f2 := fun d => absurd rfl d.1, f3 := fun d => I.f3 d.2, f4 := fun d => I.f4 d.2, f5 := fun d => I.f5 d.2, f6 := fun d => I.f6 d.2, f7 := fun d => I.f7 d.2, f67 := fun d e => I.f67 d.2 e.2, f8 := fun d => I.f8 d.2, f9 := fun d => I.f9 d.2, f10 := fun d => I.f10 d.2, c8 := fun d => by obtain ⟨a, b, c, e⟩ := I.c8 d.2; exact ⟨⟨by decide, a⟩, ⟨by decide, b⟩, ⟨by decide, c⟩, ⟨by decide, e⟩⟩, c9 := fun d => ⟨by decide, I.c9 d.2⟩, c10 := fun d => ⟨by decide, I.c10 d.2⟩ }
          exact I1.fr hF (fun k hk => own_kind d2 hk) (fun d => absurd rfl d.1) (fun d => absurd d.2 hnD)
        refine hK.out _ _ ⟨hB, _, _, _, _, _, _, _, _, _, _, _, rfl, ?_⟩
        have e : ∀ {j}, j ≠ 4 → j ≠ 2 → (j = 4 ∨ D j) → j ≠ 2 ∧ D j := fun h4 h2 h => ⟨h2, h.resolve_left h4⟩
        exact { f0 := fun d => I2.f0 (e (by decide) (by decide) d), f1 := fun d => I2.f1 (e (by decide) (by decide) d), f2 := fun _ n => absurd (.inl rfl) n, f3 := fun d => I2.f3 (e (by decide) (by decide) d), f4 := fun _ => hown, f5 := fun d => I2.f5 (e (by decide) (by decide) d), f6 := fun d => I2.f6 (e (by decide) (by decide) d), f7 := fun d => I2.f7 (e (by decide) (by decide) d), f67 := fun d d' => I2.f67 (e (by decide) (by decide) d) (e (by decide) (by decide) d'), f8 := fun d => absurd (I.c8 (d.resolve_left (by decide))).1 hnD, f9 := fun d => absurd (I.c8 (I.c9 (d.resolve_left (by decide)))).1 hnD, f10 := fun d => I2.f10 (e (by decide) (by decide) d), c8 := fun d => by obtain ⟨a, b, c, e⟩ := I.c8 (d.resolve_left (by decide)); exact ⟨.inr a, .inr b, .inr c, .inr e⟩, c9 := fun d => .inr (I.c9 (d.resolve_left (by decide))), c10 := fun d => .inr (I.c10 (d.resolve_left (by decide))) }
      · have hmk := mk64
        go_simp
        have I2 := I.alloc (.cells #[.bool false, .bool false, .bool false] 4)
        exact hK.out _ _ ⟨hbW.alloc hbW.size _, _, _, _, _, _, _, _, _, _, _, _, rfl, { f0 := orD (by decide) I2.f0, f1 := orD (by decide) I2.f1, f3 := orD (by decide) I2.f3, f4 := orD (by decide) I2.f4, f5 := fun _ => ⟨W.heap.size, rfl, hbW.size, heap_alloc_new W _⟩, f6 := orD (by decide) I2.f6, f7 := orD (by decide) I2.f7, f10 := orD (by decide) I2.f10, f2 := fun d n => I2.f2 (d.resolve_left (by decide)) (fun h => n (.inr h)), f67 := fun d e => I2.f67 (d.resolve_left (by decide)) (e.resolve_left (by decide)), f8 := fun d => absurd (I2.c8 (d.resolve_left (by decide))).2.1 hnD, f9 := fun d => absurd (I2.c8 (I2.c9 (d.resolve_left (by decide)))).2.1 hnD, c8 := fun d => by obtain ⟨a, b, c, e⟩ := I2.c8 (d.resolve_left (by decide)); exact ⟨.inr a, .inr b, .inr c, .inr e⟩, c9 := fun d => .inr (I2.c9 (d.resolve_left (by decide))), c10 := fun d => .inr (I2.c10 (d.resolve_left (by decide))) }⟩
      · have hmk := mk65
        go_simp
        have I2 := I.alloc (.cells #[.int .i64 0, .int .i64 0, .int .i64 0] 3)
        exact hK.out _ _ ⟨hbW.alloc hbW.size _, _, _, _, _, _, _, _, _, _, _, _, rfl, { f0 := orD (by decide) I2.f0, f1 := orD (by decide) I2.f1, f3 := orD (by decide) I2.f3, f4 := orD (by decide) I2.f4, f5 := orD (by decide) I2.f5, f6 := fun _ => ⟨W.heap.size, rfl, hbW.size, heap_alloc_new W _⟩, f7 := orD (by decide) I2.f7, f10 := orD (by decide) I2.f10, f2 := fun d n => I2.f2 (d.resolve_left (by decide)) (fun h => n (.inr h)), f67 := fun _ e => by obtain ⟨g, a, _, c⟩ := I.f7 (e.resolve_left (by decide)); have := lt_blk c; rw [a]; intro q; simp only [boxv, Value.slice.injEq, Option.some.injEq, Addr.mk.injEq] at q; omega, f8 := fun d => absurd (I2.c8 (d.resolve_left (by decide))).2.2.1 hnD, f9 := fun d => absurd (I2.c8 (I2.c9 (d.resolve_left (by decide)))).2.2.1 hnD, c8 := fun d => by obtain ⟨a, b, c, e⟩ := I2.c8 (d.resolve_left (by decide)); exact ⟨.inr a, .inr b, .inr c, .inr e⟩, c9 := fun d => .inr (I2.c9 (d.resolve_left (by decide))), c10 := fun d => .inr (I2.c10 (d.resolve_left (by decide))) }⟩
      · have hmk := mk65
        go_simp
        have I2 := I.alloc (.cells #[.int .i64 0, .int .i64 0, .int .i64 0] 3)
        exact hK.out _ _ ⟨hbW.alloc hbW.size _, _, _, _, _, _, _, _, _, _, _, _, rfl, { f0 := orD (by decide) I2.f0, f1 := orD (by decide) I2.f1, f3 := orD (by decide) I2.f3, f4 := orD (by decide) I2.f4, f5 := orD (by decide) I2.f5, f6 := orD (by decide) I2.f6, f7 := fun _ => ⟨W.heap.size, rfl, hbW.size, heap_alloc_new W _⟩, f10 := orD (by decide) I2.f10, f2 := fun d n => I2.f2 (d.resolve_left (by decide)) (fun h => n (.inr h)), f67 := fun e _ => by obtain ⟨g, a, _, c⟩ := I.f6 (e.resolve_left (by decide)); have := lt_blk c; rw [a]; intro q; simp only [boxv, Value.slice.injEq, Option.some.injEq, Addr.mk.injEq] at q; omega, f8 := fun d => absurd (I2.c8 (d.resolve_left (by decide))).2.2.2 hnD, f9 := fun d => absurd (I2.c8 (I2.c9 (d.resolve_left (by decide)))).2.2.2 hnD, c8 := fun d => by obtain ⟨a, b, c, e⟩ := I2.c8 (d.resolve_left (by decide)); exact ⟨.inr a, .inr b, .inr c, .inr e⟩, c9 := fun d => .inr (I2.c9 (d.resolve_left (by decide))), c10 := fun d => .inr (I2.c10 (d.resolve_left (by decide))) }⟩
      · have d0 := I.f0 (hd 0 (of_decide_eq_true (by kernel_rfl)))
        have d1 := I.f1 (hd 1 (of_decide_eq_true (by kernel_rfl)))
        have d4 := I.f4 (hd 4 (of_decide_eq_true (by kernel_rfl)))
        obtain ⟨g5, d5, _⟩ := I.f5 (hd 5 (of_decide_eq_true (by kernel_rfl)))
        obtain ⟨g6, d6, _⟩ := I.f6 (hd 6 (of_decide_eq_true (by kernel_rfl)))
        obtain ⟨g7, d7, _⟩ := I.f7 (hd 7 (of_decide_eq_true (by kernel_rfl)))
        obtain ⟨A4, c4, rfl⟩ := own_form d4
        subst d0 d1 d5 d6 d7
        unfold boxv at *
        go_simp
        exact hK.out _ _ ⟨hbW, _, _, _, _, _, _, _, _, _, _, _, rfl, { f0 := orD (by decide) I.f0, f1 := orD (by decide) I.f1, f3 := orD (by decide) I.f3, f4 := orD (by decide) I.f4, f5 := orD (by decide) I.f5, f6 := orD (by decide) I.f6, f7 := orD (by decide) I.f7, f10 := orD (by decide) I.f10, f2 := fun d n => I.f2 (d.resolve_left (by decide)) (fun h => n (.inr h)), f67 := fun d e => I.f67 (d.resolve_left (by decide)) (e.resolve_left (by decide)), f8 := fun _ => rfl, f9 := orD (by decide) I.f9, c8 := fun _ => ⟨.inr (hd 4 (of_decide_eq_true (by kernel_rfl))), .inr (hd 5 (of_decide_eq_true (by kernel_rfl))), .inr (hd 6 (of_decide_eq_true (by kernel_rfl))), .inr (hd 7 (of_decide_eq_true (by kernel_rfl)))⟩, c9 := fun d => .inr (I.c9 (d.resolve_left (by decide))), c10 := fun d => .inr (I.c10 (d.resolve_left (by decide))) }⟩
      · have d8 := I.f8 (hd 8 (of_decide_eq_true (by kernel_rfl)))
        subst d8
        go_simp
        have I2 := I.alloc (.cells #[.int .i64 id, .int .i64 h.term, .int .i64 h.vote, v49, .int .i64 0, .int .i64 0, v50, v51, v52] 67)
        exact hK.out _ _ ⟨hbW.alloc hbW.size _, _, _, _, _, _, _, _, _, _, _, _, rfl, { f0 := orD (by decide) I2.f0, f1 := orD (by decide) I2.f1, f3 := orD (by decide) I2.f3, f4 := orD (by decide) I2.f4, f5 := orD (by decide) I2.f5, f6 := orD (by decide) I2.f6, f7 := orD (by decide) I2.f7, f10 := fun d => absurd (I2.c10 (d.resolve_left (by decide))) hnD, f2 := fun d n => I2.f2 (d.resolve_left (by decide)) (fun h => n (.inr h)), f67 := fun d e => I2.f67 (d.resolve_left (by decide)) (e.resolve_left (by decide)), f8 := orD (by decide) I2.f8, f9 := fun _ => ⟨W.heap.size, rfl, hbW.size, heap_alloc_new W _⟩, c8 := fun d => by obtain ⟨a, b, c, e⟩ := I2.c8 (d.resolve_left (by decide)); exact ⟨.inr a, .inr b, .inr c, .inr e⟩, c9 := fun _ => .inr (hd 8 (of_decide_eq_true (by kernel_rfl))), c10 := fun d => .inr (I2.c10 (d.resolve_left (by decide))) }⟩
      · go_simp
        exact hK.out _ _ ⟨hbW, _, _, _, _, _, _, _, _, _, _, _, rfl, { f0 := orD (by decide) I.f0, f1 := orD (by decide) I.f1, f3 := orD (by decide) I.f3, f4 := orD (by decide) I.f4, f5 := orD (by decide) I.f5, f6 := orD (by decide) I.f6, f7 := orD (by decide) I.f7, f10 := fun _ => rfl, f2 := fun d n => I.f2 (d.resolve_left (by decide)) (fun h => n (.inr h)), f67 := fun d e => I.f67 (d.resolve_left (by decide)) (e.resolve_left (by decide)), f8 := orD (by decide) I.f8, f9 := orD (by decide) I.f9, c8 := fun d => by obtain ⟨a, b, c, e⟩ := I.c8 (d.resolve_left (by decide)); exact ⟨.inr a, .inr b, .inr c, .inr e⟩, c9 := fun d => .inr (I.c9 (d.resolve_left (by decide))), c10 := fun _ => .inr (hd 9 (of_decide_eq_true (by kernel_rfl))) }⟩
    · intro D a W hall hI
      obtain ⟨hbW, v45, v46, v47, v48, v49, v50, v51, v52, v53, v54, v6, rfl, I⟩ := hI
      have hall' : ∀ i, i < 11 → D i := hall
      obtain rfl := I.f10 (hall' 10 (by omega))
      obtain ⟨bb, rfl, hbb, hblkb⟩ := I.f9 (hall' 9 (by omega))
      have d4 := I.f4 (hall' 4 (by omega))
      obtain ⟨g5, rfl, hg5, d5⟩ := I.f5 (hall' 5 (by omega))
      obtain ⟨g6, rfl, hg6, d6⟩ := I.f6 (hall' 6 (by omega))
      obtain ⟨g7, rfl, hg7, d7⟩ := I.f7 (hall' 7 (by omega))
      obtain ⟨A4, c4, rfl⟩ := own_form d4
      have h67 := I.f67 (hall' 6 (by omega)) (hall' 7 (by omega))
      have HP : Hid (NewPostQ w id h log (.returned (.pointer (some ⟨bb, 0, none⟩))) W) := by
        refine .inr ⟨_, bb, A4, c4, g5, g6, g7, HN1.out, rfl, ⟨⟨hblkb, own_mono d4 (Nat.zero_le _), d5, d6, d7, fun e => h67 (by rw [e]), rfl, rfl, rfl⟩, HW.out⟩, ?_, HB0.out.trans (hbW.mono HB0.out.size)⟩
        have hB := HB0.out.size
        rintro k (rfl | ⟨ad, e, rfl⟩ | rfl | rfl | rfl)
        · omega
        · have := (own_lt d4 (k := ad.block) (by rw [e]; rfl)).1; omega
        all_goals omega
      clear I d4 d5 d6 d7 h67 hblkb hall hall'
      go_wp2_with fail
      go_ret
      exact HP.out
  · have HNO := Lib.hid (new_no (fun hh => by have := hq.2 hh; cases this))
    go_wp2_with fail
    go_ret
    exact .inl ⟨HNO.out, rfl, hbx⟩
end Go.Proofs.Ytodmihpmbecncaa
