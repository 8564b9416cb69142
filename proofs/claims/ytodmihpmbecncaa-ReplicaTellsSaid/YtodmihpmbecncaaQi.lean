/-
  The walk of the reference's Propose: it computes what the model says.
-/
import Derived.Test.YtodmihpmbecncaaQh
namespace Go.Proofs.Ytodmihpmbecncaa
open Go.RowKit

/-- What holds of the region that lays the longer log, whichever of its operations (D) have come up. -/
structure PrI (Wc : World) (b : Nat) (r : Rep) (x : Rec) (A : Option Addr) (cap : Nat) (D : Nat → Prop) (W : World) (v32 v33 v34 v35 v36 v37 v38 v39 v40 v41 v42 v43 : Value) : Prop where
  f0 : D 0 → v32 = .pointer (some ⟨b, 0, none⟩)
  f1 : D 1 → ¬ D 6 → W.ownsRow Wc.heap.size 55 2 v33 0 []
  f2 : D 2 → v34 = .pointer (some ⟨b, 0, none⟩)
  f3 : D 3 → v35 = .pointer (some ⟨b, 0, none⟩)
  f4 : D 4 → v36 = .pointer (some ⟨b, 3, none⟩)
  f5 : D 5 → v37 = .slice A r.log.length cap
  f6 : D 6 → ¬ D 9 → W.ownsRow Wc.heap.size 55 2 v38 r.log.length (recsCells r.log)
  f7 : D 7 → v39 = .agg #[.int .i64 x.term, .string x.data]
  f8 : D 8 → ¬ D 9 → ∃ g, v40 = .slice (some ⟨g, 0, none⟩) 1 1 ∧ Wc.heap.size ≤ g ∧ W.heap[g]? = some (.cells (recCells x).toArray 55)
  f9 : D 9 → ¬ D 12 → W.ownsRow Wc.heap.size 55 2 v41 (r.log.length + 1) (recsCells (r.log ++ [x]))
  f10 : D 10 → v42 = .pointer (some ⟨b, 0, none⟩)
  f11 : D 11 → v43 = .pointer (some ⟨b, 3, none⟩)
  s18 : D 1 → ¬ D 6 → D 8 → ¬ D 9 → ∀ k, v33.ownBlock = some k → v40.ownBlock ≠ some k
  s68 : D 6 → ¬ D 9 → D 8 → ∀ k, v38.ownBlock = some k → v40.ownBlock ≠ some k
  c9 : D 9 → D 6 ∧ D 8 ∧ D 1
  c6 : D 6 → D 1
  c11 : D 11 → D 10
  c12 : D 12 → ∀ i, i < 12 → D i
  bel : ¬ D 12 → Below Wc.heap.size Wc W
  fin : D 12 → ∃ W0 A' cap', W = W0.setCell ⟨b, 3, none⟩ (.slice A' (r.log.length + 1) cap') ∧ Below Wc.heap.size Wc W0 ∧ W0.ownsRow Wc.heap.size 55 2 (.slice A' (r.log.length + 1) cap') (r.log.length + 1) (recsCells (r.log ++ [x]))

section
variable {w : World} {b : Nat} {r : Rep} {A : Option Addr} {cap gv gn gm : Nat}

/-- What the reference's Propose leaves. -/
def AfterPQ (w : World) (b : Nat) (A : Option Addr) (gv gn gm : Nat) (r' : Rep) (n k : Int) (o : Out) (e : Ending) (w' : World) : Prop :=
  ∃ A' cap' gv' gn' gm' rv sv, e = .returned (.tuple #[.int .i64 n, .int .i64 k, outVal o rv sv]) ∧ QOk w' b r' A' cap' gv' gn' gm' ∧ (∀ k, QS b A' gv' gn' gm' k → QS b A gv gn gm k ∨ w.heap.size ≤ k) ∧ OutOk w' w.heap.size o rv sv ∧ Fr (QS b A gv gn gm) w w'

set_option maxHeartbeats 800000 in
theorem qpropose_calls_no (h : QOk w b r A cap gv gn gm) (data : ByteArray) (hdl : data.size ≤ 9223372036854775807) (hno : r.role ≠ 2 ∨ 2000 < data.size ∨ r.log.length = 4000) :
    Calls Try.prog 26 #[.pointer (some ⟨b, 0, none⟩), .string data] w (AfterPQ w b A gv gn gm (M.propose r data).1 (M.propose r data).2.1 (M.propose r data).2.2.1 (M.propose r data).2.2.2) := by
  have hb := h.lt
  obtain ⟨c0, c1, c2, c3, c4, _⟩ := h.cells
  have hlen := h.wf.len
  have HH := Lib.hid h
  have HE : Hid (∃ k, M.propose r data = (r, 0, k, M.noOut) ∧ (((r.role != 2) = true ∧ k = 24) ∨ ((r.role != 2) = false ∧ decide ((2000 : Int) < (data.size : Int)) = true ∧ k = 1) ∨ ((r.role != 2) = false ∧ decide ((2000 : Int) < (data.size : Int)) = false ∧ ((r.log.length : Int) == 4000) = true ∧ k = 6))) := by
    show ∃ k, _
    unfold M.propose
    by_cases h1 : r.role = 2
    · rw [if_neg (by simpa using h1)]
      by_cases h2 : 2000 < data.size
      · exact ⟨1, by rw [if_pos h2], .inr (.inl ⟨by simp [h1], by simp; omega, rfl⟩)⟩
      · rw [if_neg h2]
        have h3 : r.log.length = 4000 := by
          rcases hno with q | q | q
          · exact absurd h1 q
          · exact absurd q h2
          · exact q
        exact ⟨6, by rw [if_pos h3], .inr (.inr ⟨by simp [h1], by simp; omega, by simp; omega, rfl⟩)⟩
    · exact ⟨24, by rw [if_pos h1], .inl ⟨by simpa using h1, rfl⟩⟩
  obtain ⟨k, hE, hd⟩ := HE.out
  rw [hE]
  clear h hno HE hE
  rcases hd with ⟨d1, rfl⟩ | ⟨d1, d2, rfl⟩ | ⟨d1, d2, d3, rfl⟩
  all_goals
    go_enter Try.func26, Try.ntmps26
    go_upto_region 1 with fail
    refine wp_world (fun W => QOk W b r A cap gv gn gm ∧ Fr (QS b A gv gn gm) w W ∧ W.heap[w.heap.size]? = some zOut) ⟨HH.out.alloc _, (Fr.refl _ w).alloc _, heap_alloc_new w _⟩ ?_
    rintro W ⟨hR, hF, hZ⟩
    clear c0 c1 c2 c3 c4
    obtain ⟨c0, c1, c2, c3, c4, _⟩ := hR.cells
    have hbW := hR.lt
    have HR := Lib.hid hR
    have HF := Lib.hid hF
    have HZ := Lib.hid hZ
    clear hR hF hZ
    go_wp2_with (first | refine wpList_store_list rfl 45 (.tmp 6) (.tmp 13) rfl w.heap.size _ rfl rfl 45 _ HZ.out 6 size45 rfl rfl rfl ?_ | refine wpList_store_list rfl 45 (.tmp 6) (.tmp 17) rfl w.heap.size _ rfl rfl 45 _ HZ.out 6 size45 rfl rfl rfl ?_ | refine wpList_store_list rfl 45 (.tmp 6) (.tmp 24) rfl w.heap.size _ rfl rfl 45 _ HZ.out 6 size45 rfl rfl rfl ?_)
    refine bodyPost_ret (v := _) (results_ttc' rfl _ _ w.heap.size 45 _ (0, 0) _ rfl (setRow_heap _ _ _ _ _ _ HZ.out) Try.underlying45 rfl size45) rfl ?_
    obtain ⟨A', cap', gv', gn', gm', rv, sv, k1, k2, k3, k4, k5⟩ := afterq_setRow (w := w) (o := M.noOut) (rv := .slice none 0 0) (sv := .slice none 0 0) HR.out (fun k hk => .inl hk) (OutOk.nil _ _) HF.out ⟨_, _, HZ.out⟩ (Nat.le_refl _) #[.bool false, .int .i64 0, .int .i64 0, .int .i64 0, .slice none 0 0, .slice none 0 0]
    cases k1
    exact ⟨A', cap', gv', gn', gm', _, _, rfl, k2, k3, k4, k5⟩

theorem QB.putLog (h : QB w b r A cap gv gn gm) (l : List Rec) (A' : Option Addr) (cap' : Nat) (ho : w.ownsRow 0 55 2 (.slice A' l.length cap') l.length (recsCells l)) :
    QB (w.setCell ⟨b, 3, none⟩ (.slice A' l.length cap')) b { r with log := l } A' cap' gv gn gm := by
  have hk : ∀ k T, Kind w k T → T ≠ 67 → (w.setCell ⟨b, 3, none⟩ (.slice A' l.length cap')).heap[k]? = w.heap[k]? := fun k T hk hT => other_blk (hk.ne h.kind hT)
  refine ⟨set_blk h.blk 3 _, own_same ho fun k q => hk k 55 (own_kind ho q) (by decide), ?_, ?_, ?_, h.nm, h.vN, h.nN, h.mN⟩
  · rw [hk gv 4 h.kv (by decide)]; exact h.vo
  · rw [hk gn 3 h.kn (by decide)]; exact h.no
  · rw [hk gm 3 h.km (by decide)]; exact h.mo

set_option linter.unusedSimpArgs false in
set_option maxRecDepth 10000 in
set_option maxHeartbeats 1600000 in
theorem qpropose_calls_yes (h : QOk w b r A cap gv gn gm) (data : ByteArray) (h2 : r.role = 2) (hd : data.size ≤ 2000) (hl : r.log.length ≠ 4000) (ht : 1 ≤ r.hard.term) :
    Calls Try.prog 26 #[.pointer (some ⟨b, 0, none⟩), .string data] w (AfterPQ w b A gv gn gm (M.propose r data).1 (M.propose r data).2.1 (M.propose r data).2.2.1 (M.propose r data).2.2.2) := by
  have hb := h.lt
  have hlen : r.log.length < 4000 := by have := h.wf.len; omega
  have hlenI : (r.log.length : Int) < 4000 := by omega
  have HWF := Lib.hid (h.wf.push h2 hlen data hd ht)
  have HNX := Lib.hid ((h.wf.push h2 hlen data hd ht).nexts h2)
  have hE : M.propose r data = ({ r with log := r.log ++ [(⟨r.hard.term, data⟩ : Rec)] }, ((r.log ++ [(⟨r.hard.term, data⟩ : Rec)]).length : Int), 0, { M.noOut with fr := ((r.log ++ [(⟨r.hard.term, data⟩ : Rec)]).length : Int), recs := [⟨r.hard.term, data⟩], send := M.all { r with log := r.log ++ [⟨r.hard.term, data⟩] } }) := by
    unfold M.propose
    rw [if_neg (by simpa using h2), if_neg (by omega), if_neg hl]
  have HE := Lib.hid hE
  have HH := Lib.hid h
  obtain ⟨c0, c1, c2, c3, c4, _⟩ := h.cells
  have d1 : (r.role != 2) = false := by simp [h2]
  have d2 : decide ((2000 : Int) < (data.size : Int)) = false := by simp; omega
  have d3 : ((r.log.length : Int) == 4000) = false := by simp; omega
  clear h h2 hE hd hl
  go_enter Try.func26, Try.ntmps26
  go_upto_region 8 with fail
  refine wp_world (fun W => QOk W b r A cap gv gn gm ∧ Fr (QS b A gv gn gm) w W ∧ W.heap[w.heap.size]? = some zOut ∧ W.heap[w.heap.size + 1]? = some (.cells [.int .i64 r.hard.term, .string data].toArray 55))
    ⟨(HH.out.alloc _).alloc _, ((Fr.refl _ w).alloc _).alloc _, (Below.heap_alloc _ _ _ (by simp)).trans (heap_alloc_new w _), heap_alloc2_new w _ _⟩ ?_
  clear c0 c1 c2 c3 c4 d1 d2 d3
  rintro W ⟨hR, hF, hZ, hX⟩
  obtain ⟨x, hx⟩ : ∃ x : Rec, x = ⟨r.hard.term, data⟩ := ⟨_, rfl⟩
  have HX0 := Lib.hid hx
  have c3 := hR.cells.2.2.2.1
  have x0 := cell_blk hX 0
  have x1 := cell_blk hX 1
  simp only [List.getElem?_cons_succ, List.getElem?_cons_zero] at x0 x1
  have hxt : r.hard.term = x.term := by rw [hx]
  have hxd : data = x.data := by rw [hx]
  rw [hxt] at x0
  rw [hxd] at x1
  have hlx := lt_blk hX
  have HWb := Lib.hid hR.lt
  have HRW := Lib.hid hR
  have HFW := Lib.hid hF
  have HZW := Lib.hid hZ
  have HXW := Lib.hid hX
  clear hR hF hZ hX hx hxt hxd
  generalize hWc : W = Wc at *
  clear hWc
  refine wp_region_inv (fun D a W => ∃ v32 v33 v34 v35 v36 v37 v38 v39 v40 v41 v42 v43, a = (⟨#[.pointer (some ⟨b, 0, none⟩), .string data, undef, undef, .int .i64 0, .int .i64 0, .pointer (some ⟨w.heap.size, 0, none⟩), .pointer (some ⟨w.heap.size + 1, 0, none⟩), .pointer (some ⟨b, 0, none⟩), .pointer (some ⟨b, 0, none⟩), .pointer (some ⟨b, 4, none⟩), .int .i64 r.role, .bool false, undef, .string data, .int .i64 data.size, .bool false, undef, .pointer (some ⟨b, 0, none⟩), .pointer (some ⟨b, 0, none⟩), .pointer (some ⟨b, 3, none⟩), .slice A r.log.length cap, .int .i64 r.log.length, .bool false, undef, .pointer (some ⟨b, 0, none⟩), .pointer (some ⟨b, 0, none⟩), .pointer (some ⟨b, 1, none⟩), .pointer (some ⟨b, 1, none⟩), .int .i64 r.hard.term, .string data, .agg #[.int .i64 r.hard.term, .string data], v32, v33, v34, v35, v36, v37, v38, v39, v40, v41, v42, v43, undef, undef, undef, undef, undef, undef, undef, undef, undef, undef, undef, undef, undef, undef, undef], []⟩ : Act) ∧ PrI Wc b r x A cap D W v32 v33 v34 v35 v36 v37 v38 v39 v40 v41 v42 v43) (by kernel_rfl) (by kernel_rfl) ?_ ?_ ?_
  · exact ⟨undef, undef, undef, undef, undef, undef, undef, undef, undef, undef, undef, undef, rfl, { f0 := fun d => d.elim, f1 := fun d => d.elim, f2 := fun d => d.elim, f3 := fun d => d.elim, f4 := fun d => d.elim, f5 := fun d => d.elim, f6 := fun d => d.elim, f7 := fun d => d.elim, f8 := fun d => d.elim, f9 := fun d => d.elim, f10 := fun d => d.elim, f11 := fun d => d.elim, s18 := fun d => d.elim, s68 := fun d => d.elim, c9 := fun d => d.elim, c6 := fun d => d.elim, c11 := fun d => d.elim, c12 := fun d => d.elim, fin := fun d => d.elim, bel := fun _ => (Below.refl _ Wc).drew }⟩
  · intro D a W i o ho hI hnD hd K hK
    obtain ⟨v32, v33, v34, v35, v36, v37, v38, v39, v40, v41, v42, v43, rfl, I⟩ := hI
    have hi : i < 13 := (Array.getElem?_eq_some_iff.1 ho).1
    have hi' : i = 0 ∨ i = 1 ∨ i = 2 ∨ i = 3 ∨ i = 4 ∨ i = 5 ∨ i = 6 ∨ i = 7 ∨ i = 8 ∨ i = 9 ∨ i = 10 ∨ i = 11 ∨ i = 12 := by omega
    rcases hi' with rfl | rfl | rfl | rfl | rfl | rfl | rfl | rfl | rfl | rfl | rfl | rfl | rfl
    all_goals obtain rfl := Option.some.inj ho
    all_goals clear ho hi
    · go_simp
      exact hK.out _ _ ⟨_, _, _, _, _, _, _, _, _, _, _, _, rfl, { f0 := fun _ => rfl, f1 := fun d0 d1 => I.f1 (d0.resolve_left (by decide)) (fun h => d1 (.inr h)), f2 := fun d0 => I.f2 (d0.resolve_left (by decide)), f3 := fun d0 => I.f3 (d0.resolve_left (by decide)), f4 := fun d0 => I.f4 (d0.resolve_left (by decide)), f5 := fun d0 => I.f5 (d0.resolve_left (by decide)), f6 := fun d0 d1 => I.f6 (d0.resolve_left (by decide)) (fun h => d1 (.inr h)), f7 := fun d0 => I.f7 (d0.resolve_left (by decide)), f8 := fun d0 d1 => I.f8 (d0.resolve_left (by decide)) (fun h => d1 (.inr h)), f9 := fun d0 d1 => I.f9 (d0.resolve_left (by decide)) (fun h => d1 (.inr h)), f10 := fun d0 => I.f10 (d0.resolve_left (by decide)), f11 := fun d0 => I.f11 (d0.resolve_left (by decide)), s18 := fun d0 d1 d2 d3 => I.s18 (d0.resolve_left (by decide)) (fun h => d1 (.inr h)) (d2.resolve_left (by decide)) (fun h => d3 (.inr h)), s68 := fun d0 d1 d2 => I.s68 (d0.resolve_left (by decide)) (fun h => d1 (.inr h)) (d2.resolve_left (by decide)), bel := fun d0 => I.bel (fun h => d0 (.inr h)), c9 := fun d => by obtain ⟨a, b, c⟩ := I.c9 (d.resolve_left (by decide)); exact ⟨.inr a, .inr b, .inr c⟩, c6 := fun d => .inr (I.c6 (d.resolve_left (by decide))), c11 := fun d => .inr (I.c11 (d.resolve_left (by decide))), c12 := fun d => absurd (I.c12 (d.resolve_left (by decide)) 0 (by decide)) hnD, fin := fun d => absurd (I.c12 (d.resolve_left (by decide)) 0 (by decide)) hnD }⟩
    · have hbW := I.bel (fun d => hnD (I.c12 d 1 (by decide)))
      go_simp
      have hn6 : ¬ D 6 := fun d => hnD (I.c6 d)
      have hn9 : ¬ D 9 := fun d => hnD (I.c9 d).2.2
      have hA : ∀ {v : Value} {n : Nat} {xs : List Value}, W.ownsRow Wc.heap.size 55 2 v n xs → (W.alloc (.cells #[] 55)).ownsRow Wc.heap.size 55 2 v n xs := fun h => own_below h ((Below.refl _ W).alloc (Nat.le_refl _) _) (Nat.le_refl _)
      exact hK.out _ _ ⟨_, _, _, _, _, _, _, _, _, _, _, _, rfl, { f0 := fun d0 => I.f0 (d0.resolve_left (by decide)), f1 := fun _ _ => own_mono (own_new W 55 2) hbW.size, f2 := fun d0 => I.f2 (d0.resolve_left (by decide)), f3 := fun d0 => I.f3 (d0.resolve_left (by decide)), f4 := fun d0 => I.f4 (d0.resolve_left (by decide)), f5 := fun d0 => I.f5 (d0.resolve_left (by decide)), f6 := fun d => absurd (d.resolve_left (by decide)) hn6, f7 := fun d0 => I.f7 (d0.resolve_left (by decide)), f8 := fun d n => by obtain ⟨g, a, b, c⟩ := I.f8 (d.resolve_left (by decide)) (fun h => n (.inr h)); exact ⟨g, a, b, (Below.heap_alloc _ _ _ (lt_blk c)).trans c⟩, f9 := fun d => absurd (d.resolve_left (by decide)) hn9, f10 := fun d0 => I.f10 (d0.resolve_left (by decide)), f11 := fun d0 => I.f11 (d0.resolve_left (by decide)), s18 := fun _ _ d n k hk hk' => by obtain ⟨g, a, b, c⟩ := I.f8 (d.resolve_left (by decide)) (fun h => n (.inr h)); have h1 := lt_blk c; rw [a] at hk'; have e1 : W.heap.size = k := Option.some.inj hk; have e2 : g = k := Option.some.inj hk'; omega, s68 := fun d0 d1 d2 => I.s68 (d0.resolve_left (by decide)) (fun h => d1 (.inr h)) (d2.resolve_left (by decide)), bel := fun _ => hbW.alloc hbW.size _, c9 := fun d => by obtain ⟨a, b, c⟩ := I.c9 (d.resolve_left (by decide)); exact ⟨.inr a, .inr b, .inr c⟩, c6 := fun d => .inr (I.c6 (d.resolve_left (by decide))), c11 := fun d => .inr (I.c11 (d.resolve_left (by decide))), c12 := fun d => absurd (I.c12 (d.resolve_left (by decide)) 1 (by decide)) hnD, fin := fun d => absurd (I.c12 (d.resolve_left (by decide)) 1 (by decide)) hnD }⟩
    · go_simp
      exact hK.out _ _ ⟨_, _, _, _, _, _, _, _, _, _, _, _, rfl, { f0 := fun d0 => I.f0 (d0.resolve_left (by decide)), f1 := fun d0 d1 => I.f1 (d0.resolve_left (by decide)) (fun h => d1 (.inr h)), f2 := fun _ => rfl, f3 := fun d0 => I.f3 (d0.resolve_left (by decide)), f4 := fun d0 => I.f4 (d0.resolve_left (by decide)), f5 := fun d0 => I.f5 (d0.resolve_left (by decide)), f6 := fun d0 d1 => I.f6 (d0.resolve_left (by decide)) (fun h => d1 (.inr h)), f7 := fun d0 => I.f7 (d0.resolve_left (by decide)), f8 := fun d0 d1 => I.f8 (d0.resolve_left (by decide)) (fun h => d1 (.inr h)), f9 := fun d0 d1 => I.f9 (d0.resolve_left (by decide)) (fun h => d1 (.inr h)), f10 := fun d0 => I.f10 (d0.resolve_left (by decide)), f11 := fun d0 => I.f11 (d0.resolve_left (by decide)), s18 := fun d0 d1 d2 d3 => I.s18 (d0.resolve_left (by decide)) (fun h => d1 (.inr h)) (d2.resolve_left (by decide)) (fun h => d3 (.inr h)), s68 := fun d0 d1 d2 => I.s68 (d0.resolve_left (by decide)) (fun h => d1 (.inr h)) (d2.resolve_left (by decide)), bel := fun d0 => I.bel (fun h => d0 (.inr h)), c9 := fun d => by obtain ⟨a, b, c⟩ := I.c9 (d.resolve_left (by decide)); exact ⟨.inr a, .inr b, .inr c⟩, c6 := fun d => .inr (I.c6 (d.resolve_left (by decide))), c11 := fun d => .inr (I.c11 (d.resolve_left (by decide))), c12 := fun d => absurd (I.c12 (d.resolve_left (by decide)) 2 (by decide)) hnD, fin := fun d => absurd (I.c12 (d.resolve_left (by decide)) 2 (by decide)) hnD }⟩
    · have e2 := I.f2 (hd 2 (of_decide_eq_true (by kernel_rfl)))
      subst e2
      have hbW := I.bel (fun d => hnD (I.c12 d 3 (by decide)))
      have y3 := (hbW.cell (p := ⟨b, 3, none⟩) HWb.out).trans c3
      have y0 := (hbW.cell (p := ⟨w.heap.size + 1, 0, none⟩) hlx).trans x0
      have y1 := (hbW.cell (p := ⟨w.heap.size + 1, 1, none⟩) hlx).trans x1
      go_simp
      exact hK.out _ _ ⟨_, _, _, _, _, _, _, _, _, _, _, _, rfl, { f0 := fun d0 => I.f0 (d0.resolve_left (by decide)), f1 := fun d0 d1 => I.f1 (d0.resolve_left (by decide)) (fun h => d1 (.inr h)), f2 := fun d0 => I.f2 (d0.resolve_left (by decide)), f3 := fun _ => rfl, f4 := fun d0 => I.f4 (d0.resolve_left (by decide)), f5 := fun d0 => I.f5 (d0.resolve_left (by decide)), f6 := fun d0 d1 => I.f6 (d0.resolve_left (by decide)) (fun h => d1 (.inr h)), f7 := fun d0 => I.f7 (d0.resolve_left (by decide)), f8 := fun d0 d1 => I.f8 (d0.resolve_left (by decide)) (fun h => d1 (.inr h)), f9 := fun d0 d1 => I.f9 (d0.resolve_left (by decide)) (fun h => d1 (.inr h)), f10 := fun d0 => I.f10 (d0.resolve_left (by decide)), f11 := fun d0 => I.f11 (d0.resolve_left (by decide)), s18 := fun d0 d1 d2 d3 => I.s18 (d0.resolve_left (by decide)) (fun h => d1 (.inr h)) (d2.resolve_left (by decide)) (fun h => d3 (.inr h)), s68 := fun d0 d1 d2 => I.s68 (d0.resolve_left (by decide)) (fun h => d1 (.inr h)) (d2.resolve_left (by decide)), bel := fun d0 => I.bel (fun h => d0 (.inr h)), c9 := fun d => by obtain ⟨a, b, c⟩ := I.c9 (d.resolve_left (by decide)); exact ⟨.inr a, .inr b, .inr c⟩, c6 := fun d => .inr (I.c6 (d.resolve_left (by decide))), c11 := fun d => .inr (I.c11 (d.resolve_left (by decide))), c12 := fun d => absurd (I.c12 (d.resolve_left (by decide)) 3 (by decide)) hnD, fin := fun d => absurd (I.c12 (d.resolve_left (by decide)) 3 (by decide)) hnD }⟩
    · have e3 := I.f3 (hd 3 (of_decide_eq_true (by kernel_rfl)))
      subst e3
      go_simp
      exact hK.out _ _ ⟨_, _, _, _, _, _, _, _, _, _, _, _, rfl, { f0 := fun d0 => I.f0 (d0.resolve_left (by decide)), f1 := fun d0 d1 => I.f1 (d0.resolve_left (by decide)) (fun h => d1 (.inr h)), f2 := fun d0 => I.f2 (d0.resolve_left (by decide)), f3 := fun d0 => I.f3 (d0.resolve_left (by decide)), f4 := fun _ => rfl, f5 := fun d0 => I.f5 (d0.resolve_left (by decide)), f6 := fun d0 d1 => I.f6 (d0.resolve_left (by decide)) (fun h => d1 (.inr h)), f7 := fun d0 => I.f7 (d0.resolve_left (by decide)), f8 := fun d0 d1 => I.f8 (d0.resolve_left (by decide)) (fun h => d1 (.inr h)), f9 := fun d0 d1 => I.f9 (d0.resolve_left (by decide)) (fun h => d1 (.inr h)), f10 := fun d0 => I.f10 (d0.resolve_left (by decide)), f11 := fun d0 => I.f11 (d0.resolve_left (by decide)), s18 := fun d0 d1 d2 d3 => I.s18 (d0.resolve_left (by decide)) (fun h => d1 (.inr h)) (d2.resolve_left (by decide)) (fun h => d3 (.inr h)), s68 := fun d0 d1 d2 => I.s68 (d0.resolve_left (by decide)) (fun h => d1 (.inr h)) (d2.resolve_left (by decide)), bel := fun d0 => I.bel (fun h => d0 (.inr h)), c9 := fun d => by obtain ⟨a, b, c⟩ := I.c9 (d.resolve_left (by decide)); exact ⟨.inr a, .inr b, .inr c⟩, c6 := fun d => .inr (I.c6 (d.resolve_left (by decide))), c11 := fun d => .inr (I.c11 (d.resolve_left (by decide))), c12 := fun d => absurd (I.c12 (d.resolve_left (by decide)) 4 (by decide)) hnD, fin := fun d => absurd (I.c12 (d.resolve_left (by decide)) 4 (by decide)) hnD }⟩
    · have e4 := I.f4 (hd 4 (of_decide_eq_true (by kernel_rfl)))
      subst e4
      have hbW := I.bel (fun d => hnD (I.c12 d 5 (by decide)))
      have y3 := (hbW.cell (p := ⟨b, 3, none⟩) HWb.out).trans c3
      have y0 := (hbW.cell (p := ⟨w.heap.size + 1, 0, none⟩) hlx).trans x0
      have y1 := (hbW.cell (p := ⟨w.heap.size + 1, 1, none⟩) hlx).trans x1
      go_simp
      exact hK.out _ _ ⟨_, _, _, _, _, _, _, _, _, _, _, _, rfl, { f0 := fun d0 => I.f0 (d0.resolve_left (by decide)), f1 := fun d0 d1 => I.f1 (d0.resolve_left (by decide)) (fun h => d1 (.inr h)), f2 := fun d0 => I.f2 (d0.resolve_left (by decide)), f3 := fun d0 => I.f3 (d0.resolve_left (by decide)), f4 := fun d0 => I.f4 (d0.resolve_left (by decide)), f5 := fun _ => rfl, f6 := fun d0 d1 => I.f6 (d0.resolve_left (by decide)) (fun h => d1 (.inr h)), f7 := fun d0 => I.f7 (d0.resolve_left (by decide)), f8 := fun d0 d1 => I.f8 (d0.resolve_left (by decide)) (fun h => d1 (.inr h)), f9 := fun d0 d1 => I.f9 (d0.resolve_left (by decide)) (fun h => d1 (.inr h)), f10 := fun d0 => I.f10 (d0.resolve_left (by decide)), f11 := fun d0 => I.f11 (d0.resolve_left (by decide)), s18 := fun d0 d1 d2 d3 => I.s18 (d0.resolve_left (by decide)) (fun h => d1 (.inr h)) (d2.resolve_left (by decide)) (fun h => d3 (.inr h)), s68 := fun d0 d1 d2 => I.s68 (d0.resolve_left (by decide)) (fun h => d1 (.inr h)) (d2.resolve_left (by decide)), bel := fun d0 => I.bel (fun h => d0 (.inr h)), c9 := fun d => by obtain ⟨a, b, c⟩ := I.c9 (d.resolve_left (by decide)); exact ⟨.inr a, .inr b, .inr c⟩, c6 := fun d => .inr (I.c6 (d.resolve_left (by decide))), c11 := fun d => .inr (I.c11 (d.resolve_left (by decide))), c12 := fun d => absurd (I.c12 (d.resolve_left (by decide)) 5 (by decide)) hnD, fin := fun d => absurd (I.c12 (d.resolve_left (by decide)) 5 (by decide)) hnD }⟩
    · have hbW := I.bel (fun d => hnD (I.c12 d 6 (by decide)))
      have hn9 : ¬ D 9 := fun d => hnD (I.c9 d).1
      have d1 := I.f1 (hd 1 (of_decide_eq_true (by kernel_rfl))) hnD
      have e5 := I.f5 (hd 5 (of_decide_eq_true (by kernel_rfl)))
      subst e5
      have hsl : Sl W (0 ≤ ·) 2 (.slice A r.log.length cap) r.log.length (recsCells r.log) := (Sl.of_own HRW.out.own).below hbW (Nat.le_refl _)
      refine step_append_sl rfl _ _ 35 (by rfl) Wc.heap.size 55 _ 2 24 Try.underlying35 info55 rfl (by decide) _ 0 [] (by rfl) d1 (0 ≤ ·) _ r.log.length (recsCells r.log) (by rfl) hsl (recsCells_one _) (by simp only [maxLen]; omega) (by omega) hbW.size ?_
      intro v' w2 hown hg hat
      rw [Nat.zero_add, List.nil_append] at hown
      have hB : Below Wc.heap.size Wc w2 := hbW.grown hg hbW.size (fun q hq => (own_lt d1 hq).1)
      have hs18 := fun (h8 : D 8) => I.s18 (hd 1 (of_decide_eq_true (by kernel_rfl))) hnD h8 hn9
      exact hK.out _ _ ⟨_, _, _, _, _, _, _, _, _, _, _, _, rfl, { f0 := fun d0 => I.f0 (d0.resolve_left (by decide)), f1 := fun _ d1 => absurd (.inl rfl) d1, f2 := fun d0 => I.f2 (d0.resolve_left (by decide)), f3 := fun d0 => I.f3 (d0.resolve_left (by decide)), f4 := fun d0 => I.f4 (d0.resolve_left (by decide)), f5 := fun d0 => I.f5 (d0.resolve_left (by decide)), f6 := fun _ _ => hown, f7 := fun d0 => I.f7 (d0.resolve_left (by decide)), f8 := fun d n => by obtain ⟨g, a, b, c⟩ := I.f8 (d.resolve_left (by decide)) hn9; refine ⟨g, a, b, (hg.block g (lt_blk c) (fun e => ?_)).trans c⟩; have := hs18 (d.resolve_left (by decide)) g e.symm; rw [a] at this; exact this rfl, f9 := fun d => absurd (d.resolve_left (by decide)) hn9, f10 := fun d0 => I.f10 (d0.resolve_left (by decide)), f11 := fun d0 => I.f11 (d0.resolve_left (by decide)), s18 := fun _ d1 _ _ => absurd (.inl rfl) d1, s68 := fun _ _ d k hk hk' => hat.elim (fun q => hs18 (d.resolve_left (by decide)) k (q.symm.trans hk) hk') (fun q => by obtain ⟨g, a, b, c⟩ := I.f8 (d.resolve_left (by decide)) hn9; have h1 := lt_blk c; rw [a] at hk'; have e1 : W.heap.size = k := Option.some.inj (q.symm.trans hk); have e2 : g = k := Option.some.inj hk'; omega), bel := fun _ => hB, c9 := fun d => by obtain ⟨a, b, c⟩ := I.c9 (d.resolve_left (by decide)); exact ⟨.inr a, .inr b, .inr c⟩, c6 := fun _ => .inr (hd 1 (of_decide_eq_true (by kernel_rfl))), c11 := fun d => .inr (I.c11 (d.resolve_left (by decide))), c12 := fun d => absurd (I.c12 (d.resolve_left (by decide)) 6 (by decide)) hnD, fin := fun d => absurd (I.c12 (d.resolve_left (by decide)) 6 (by decide)) hnD }⟩
    · have hbW := I.bel (fun d => hnD (I.c12 d 7 (by decide)))
      have y3 := (hbW.cell (p := ⟨b, 3, none⟩) HWb.out).trans c3
      have y0 := (hbW.cell (p := ⟨w.heap.size + 1, 0, none⟩) hlx).trans x0
      have y1 := (hbW.cell (p := ⟨w.heap.size + 1, 1, none⟩) hlx).trans x1
      go_simp
      exact hK.out _ _ ⟨_, _, _, _, _, _, _, _, _, _, _, _, rfl, { f0 := fun d0 => I.f0 (d0.resolve_left (by decide)), f1 := fun d0 d1 => I.f1 (d0.resolve_left (by decide)) (fun h => d1 (.inr h)), f2 := fun d0 => I.f2 (d0.resolve_left (by decide)), f3 := fun d0 => I.f3 (d0.resolve_left (by decide)), f4 := fun d0 => I.f4 (d0.resolve_left (by decide)), f5 := fun d0 => I.f5 (d0.resolve_left (by decide)), f6 := fun d0 d1 => I.f6 (d0.resolve_left (by decide)) (fun h => d1 (.inr h)), f7 := fun _ => rfl, f8 := fun d0 d1 => I.f8 (d0.resolve_left (by decide)) (fun h => d1 (.inr h)), f9 := fun d0 d1 => I.f9 (d0.resolve_left (by decide)) (fun h => d1 (.inr h)), f10 := fun d0 => I.f10 (d0.resolve_left (by decide)), f11 := fun d0 => I.f11 (d0.resolve_left (by decide)), s18 := fun d0 d1 d2 d3 => I.s18 (d0.resolve_left (by decide)) (fun h => d1 (.inr h)) (d2.resolve_left (by decide)) (fun h => d3 (.inr h)), s68 := fun d0 d1 d2 => I.s68 (d0.resolve_left (by decide)) (fun h => d1 (.inr h)) (d2.resolve_left (by decide)), bel := fun d0 => I.bel (fun h => d0 (.inr h)), c9 := fun d => by obtain ⟨a, b, c⟩ := I.c9 (d.resolve_left (by decide)); exact ⟨.inr a, .inr b, .inr c⟩, c6 := fun d => .inr (I.c6 (d.resolve_left (by decide))), c11 := fun d => .inr (I.c11 (d.resolve_left (by decide))), c12 := fun d => absurd (I.c12 (d.resolve_left (by decide)) 7 (by decide)) hnD, fin := fun d => absurd (I.c12 (d.resolve_left (by decide)) 7 (by decide)) hnD }⟩
    · have hbW := I.bel (fun d => hnD (I.c12 d 8 (by decide)))
      have e7 := I.f7 (hd 7 (of_decide_eq_true (by kernel_rfl)))
      subst e7
      go_simp
      have hn9 : ¬ D 9 := fun d => hnD (I.c9 d).2.1
      have hA : ∀ {v : Value} {n : Nat} {xs : List Value}, W.ownsRow Wc.heap.size 55 2 v n xs → (W.alloc (.cells #[.int .i64 x.term, .string x.data] 55)).ownsRow Wc.heap.size 55 2 v n xs := fun h => own_below h ((Below.refl _ W).alloc (Nat.le_refl _) _) (Nat.le_refl _)
      exact hK.out _ _ ⟨_, _, _, _, _, _, _, _, _, _, _, _, rfl, { f0 := fun d0 => I.f0 (d0.resolve_left (by decide)), f1 := fun d n => hA (I.f1 (d.resolve_left (by decide)) (fun h => n (.inr h))), f2 := fun d0 => I.f2 (d0.resolve_left (by decide)), f3 := fun d0 => I.f3 (d0.resolve_left (by decide)), f4 := fun d0 => I.f4 (d0.resolve_left (by decide)), f5 := fun d0 => I.f5 (d0.resolve_left (by decide)), f6 := fun d n => hA (I.f6 (d.resolve_left (by decide)) (fun h => n (.inr h))), f7 := fun d0 => I.f7 (d0.resolve_left (by decide)), f8 := fun _ _ => ⟨W.heap.size, rfl, hbW.size, heap_alloc_new W _⟩, f9 := fun d => absurd (d.resolve_left (by decide)) hn9, f10 := fun d0 => I.f10 (d0.resolve_left (by decide)), f11 := fun d0 => I.f11 (d0.resolve_left (by decide)), s18 := fun d n _ _ k hk hk' => by have h1 := (own_lt (I.f1 (d.resolve_left (by decide)) (fun h => n (.inr h))) hk).2; have e2 : W.heap.size = k := Option.some.inj hk'; omega, s68 := fun d n _ k hk hk' => by have h1 := (own_lt (I.f6 (d.resolve_left (by decide)) (fun h => n (.inr h))) hk).2; have e2 : W.heap.size = k := Option.some.inj hk'; omega, bel := fun _ => hbW.alloc hbW.size _, c9 := fun d => by obtain ⟨a, b, c⟩ := I.c9 (d.resolve_left (by decide)); exact ⟨.inr a, .inr b, .inr c⟩, c6 := fun d => .inr (I.c6 (d.resolve_left (by decide))), c11 := fun d => .inr (I.c11 (d.resolve_left (by decide))), c12 := fun d => absurd (I.c12 (d.resolve_left (by decide)) 8 (by decide)) hnD, fin := fun d => absurd (I.c12 (d.resolve_left (by decide)) 8 (by decide)) hnD }⟩
    · have hbW := I.bel (fun d => hnD (I.c12 d 9 (by decide)))
      have d6 := I.f6 (hd 6 (of_decide_eq_true (by kernel_rfl))) hnD
      obtain ⟨g, e8, hg8, hc8⟩ := I.f8 (hd 8 (of_decide_eq_true (by kernel_rfl))) hnD
      subst e8
      have hsl : Sl W (Wc.heap.size ≤ ·) 2 (.slice (some ⟨g, 0, none⟩) 1 1) 1 (recsCells [x]) := ⟨by rw [recsCells_length]; rfl, by omega, _, _, rfl, by omega, by omega, Or.inr ⟨_, _, rfl, hg8, lt_blk hc8, fun j u h => by rw [Nat.zero_add, cell_blk hc8]; simpa [recsCells] using h⟩⟩
      refine step_append_sl rfl _ _ 35 (by rfl) Wc.heap.size 55 _ 2 24 Try.underlying35 info55 rfl (by decide) _ r.log.length (recsCells r.log) (by rfl) d6 (Wc.heap.size ≤ ·) _ 1 (recsCells [x]) (by rfl) hsl (recsCells_one _) (by simp only [maxLen]; omega) (by omega) hbW.size ?_
      intro v' w2 hown hg hat
      rw [← recsCells_append] at hown
      have hB : Below Wc.heap.size Wc w2 := hbW.grown hg hbW.size (fun q hq => (own_lt d6 hq).1)
      exact hK.out _ _ ⟨_, _, _, _, _, _, _, _, _, _, _, _, rfl, { f0 := fun d0 => I.f0 (d0.resolve_left (by decide)), f1 := fun d n => absurd (.inr (hd 6 (of_decide_eq_true (by kernel_rfl)))) n, f2 := fun d0 => I.f2 (d0.resolve_left (by decide)), f3 := fun d0 => I.f3 (d0.resolve_left (by decide)), f4 := fun d0 => I.f4 (d0.resolve_left (by decide)), f5 := fun d0 => I.f5 (d0.resolve_left (by decide)), f6 := fun _ d1 => absurd (.inl rfl) d1, f7 := fun d0 => I.f7 (d0.resolve_left (by decide)), f8 := fun _ d1 => absurd (.inl rfl) d1, f9 := fun _ _ => hown, f10 := fun d0 => I.f10 (d0.resolve_left (by decide)), f11 := fun d0 => I.f11 (d0.resolve_left (by decide)), s18 := fun _ _ _ d3 => absurd (.inl rfl) d3, s68 := fun _ d1 _ => absurd (.inl rfl) d1, bel := fun _ => hB, c9 := fun _ => ⟨.inr (hd 6 (of_decide_eq_true (by kernel_rfl))), .inr (hd 8 (of_decide_eq_true (by kernel_rfl))), .inr (I.c6 (hd 6 (of_decide_eq_true (by kernel_rfl))))⟩, c6 := fun d => .inr (I.c6 (d.resolve_left (by decide))), c11 := fun d => .inr (I.c11 (d.resolve_left (by decide))), c12 := fun d => absurd (I.c12 (d.resolve_left (by decide)) 9 (by decide)) hnD, fin := fun d => absurd (I.c12 (d.resolve_left (by decide)) 9 (by decide)) hnD }⟩
    · have e0 := I.f0 (hd 0 (of_decide_eq_true (by kernel_rfl)))
      subst e0
      have hbW := I.bel (fun d => hnD (I.c12 d 10 (by decide)))
      have y3 := (hbW.cell (p := ⟨b, 3, none⟩) HWb.out).trans c3
      have y0 := (hbW.cell (p := ⟨w.heap.size + 1, 0, none⟩) hlx).trans x0
      have y1 := (hbW.cell (p := ⟨w.heap.size + 1, 1, none⟩) hlx).trans x1
      go_simp
      exact hK.out _ _ ⟨_, _, _, _, _, _, _, _, _, _, _, _, rfl, { f0 := fun d0 => I.f0 (d0.resolve_left (by decide)), f1 := fun d0 d1 => I.f1 (d0.resolve_left (by decide)) (fun h => d1 (.inr h)), f2 := fun d0 => I.f2 (d0.resolve_left (by decide)), f3 := fun d0 => I.f3 (d0.resolve_left (by decide)), f4 := fun d0 => I.f4 (d0.resolve_left (by decide)), f5 := fun d0 => I.f5 (d0.resolve_left (by decide)), f6 := fun d0 d1 => I.f6 (d0.resolve_left (by decide)) (fun h => d1 (.inr h)), f7 := fun d0 => I.f7 (d0.resolve_left (by decide)), f8 := fun d0 d1 => I.f8 (d0.resolve_left (by decide)) (fun h => d1 (.inr h)), f9 := fun d0 d1 => I.f9 (d0.resolve_left (by decide)) (fun h => d1 (.inr h)), f10 := fun _ => rfl, f11 := fun d0 => I.f11 (d0.resolve_left (by decide)), s18 := fun d0 d1 d2 d3 => I.s18 (d0.resolve_left (by decide)) (fun h => d1 (.inr h)) (d2.resolve_left (by decide)) (fun h => d3 (.inr h)), s68 := fun d0 d1 d2 => I.s68 (d0.resolve_left (by decide)) (fun h => d1 (.inr h)) (d2.resolve_left (by decide)), bel := fun d0 => I.bel (fun h => d0 (.inr h)), c9 := fun d => by obtain ⟨a, b, c⟩ := I.c9 (d.resolve_left (by decide)); exact ⟨.inr a, .inr b, .inr c⟩, c6 := fun d => .inr (I.c6 (d.resolve_left (by decide))), c11 := fun d => .inr (I.c11 (d.resolve_left (by decide))), c12 := fun d => absurd (I.c12 (d.resolve_left (by decide)) 10 (by decide)) hnD, fin := fun d => absurd (I.c12 (d.resolve_left (by decide)) 10 (by decide)) hnD }⟩
    · have e10 := I.f10 (hd 10 (of_decide_eq_true (by kernel_rfl)))
      subst e10
      go_simp
      exact hK.out _ _ ⟨_, _, _, _, _, _, _, _, _, _, _, _, rfl, { f0 := fun d0 => I.f0 (d0.resolve_left (by decide)), f1 := fun d0 d1 => I.f1 (d0.resolve_left (by decide)) (fun h => d1 (.inr h)), f2 := fun d0 => I.f2 (d0.resolve_left (by decide)), f3 := fun d0 => I.f3 (d0.resolve_left (by decide)), f4 := fun d0 => I.f4 (d0.resolve_left (by decide)), f5 := fun d0 => I.f5 (d0.resolve_left (by decide)), f6 := fun d0 d1 => I.f6 (d0.resolve_left (by decide)) (fun h => d1 (.inr h)), f7 := fun d0 => I.f7 (d0.resolve_left (by decide)), f8 := fun d0 d1 => I.f8 (d0.resolve_left (by decide)) (fun h => d1 (.inr h)), f9 := fun d0 d1 => I.f9 (d0.resolve_left (by decide)) (fun h => d1 (.inr h)), f10 := fun d0 => I.f10 (d0.resolve_left (by decide)), f11 := fun _ => rfl, s18 := fun d0 d1 d2 d3 => I.s18 (d0.resolve_left (by decide)) (fun h => d1 (.inr h)) (d2.resolve_left (by decide)) (fun h => d3 (.inr h)), s68 := fun d0 d1 d2 => I.s68 (d0.resolve_left (by decide)) (fun h => d1 (.inr h)) (d2.resolve_left (by decide)), bel := fun d0 => I.bel (fun h => d0 (.inr h)), c9 := fun d => by obtain ⟨a, b, c⟩ := I.c9 (d.resolve_left (by decide)); exact ⟨.inr a, .inr b, .inr c⟩, c6 := fun d => .inr (I.c6 (d.resolve_left (by decide))), c11 := fun _ => .inr (hd 10 (of_decide_eq_true (by kernel_rfl))), c12 := fun d => absurd (I.c12 (d.resolve_left (by decide)) 11 (by decide)) hnD, fin := fun d => absurd (I.c12 (d.resolve_left (by decide)) 11 (by decide)) hnD }⟩
    · have hbW := I.bel hnD
      have hall12 : ∀ i, i < 12 → D i := by
        intro i hi
        have : i = 0 ∨ i = 1 ∨ i = 2 ∨ i = 3 ∨ i = 4 ∨ i = 5 ∨ i = 6 ∨ i = 7 ∨ i = 8 ∨ i = 9 ∨ i = 10 ∨ i = 11 := by omega
        rcases this with rfl | rfl | rfl | rfl | rfl | rfl | rfl | rfl | rfl | rfl | rfl | rfl
        · exact (hd 0 (of_decide_eq_true (by kernel_rfl)))
        · exact (hd 1 (of_decide_eq_true (by kernel_rfl)))
        · exact (hd 2 (of_decide_eq_true (by kernel_rfl)))
        · exact (hd 3 (of_decide_eq_true (by kernel_rfl)))
        · exact (hd 4 (of_decide_eq_true (by kernel_rfl)))
        · exact (hd 5 (of_decide_eq_true (by kernel_rfl)))
        · exact (hd 6 (of_decide_eq_true (by kernel_rfl)))
        · exact (hd 7 (of_decide_eq_true (by kernel_rfl)))
        · exact (hd 8 (of_decide_eq_true (by kernel_rfl)))
        · exact (hd 9 (of_decide_eq_true (by kernel_rfl)))
        · exact I.c11 (hd 11 (of_decide_eq_true (by kernel_rfl)))
        · exact (hd 11 (of_decide_eq_true (by kernel_rfl)))
      have d9 := I.f9 (hall12 9 (by decide)) hnD
      have e11 := I.f11 (hall12 11 (by decide))
      subst e11
      obtain ⟨A', cap', rfl⟩ := own_form d9
      have y3 := (hbW.cell (p := ⟨b, 3, none⟩) HWb.out).trans c3
      have yf3 : W.frozen? ⟨b, 3, none⟩ = false := by rw [World.frozen?_of_block (w := Wc) (hbW.block b HWb.out)]; exact HRW.out.free 3
      go_simp
      exact hK.out _ _ ⟨_, _, _, _, _, _, _, _, _, _, _, _, rfl, { f0 := fun d0 => I.f0 (d0.resolve_left (by decide)), f1 := fun d n => absurd (.inr (hall12 6 (by decide))) n, f2 := fun d0 => I.f2 (d0.resolve_left (by decide)), f3 := fun d0 => I.f3 (d0.resolve_left (by decide)), f4 := fun d0 => I.f4 (d0.resolve_left (by decide)), f5 := fun d0 => I.f5 (d0.resolve_left (by decide)), f6 := fun d n => absurd (.inr (hall12 9 (by decide))) n, f7 := fun d0 => I.f7 (d0.resolve_left (by decide)), f8 := fun d n => absurd (.inr (hall12 9 (by decide))) n, f9 := fun d n => absurd (.inl rfl) n, f10 := fun d0 => I.f10 (d0.resolve_left (by decide)), f11 := fun d0 => I.f11 (d0.resolve_left (by decide)), s18 := fun d0 d1 d2 d3 => I.s18 (d0.resolve_left (by decide)) (fun h => d1 (.inr h)) (d2.resolve_left (by decide)) (fun h => d3 (.inr h)), s68 := fun d0 d1 d2 => I.s68 (d0.resolve_left (by decide)) (fun h => d1 (.inr h)) (d2.resolve_left (by decide)), bel := fun d0 => absurd (.inl rfl) d0, c9 := fun d => by obtain ⟨a, b, c⟩ := I.c9 (d.resolve_left (by decide)); exact ⟨.inr a, .inr b, .inr c⟩, c6 := fun d => .inr (I.c6 (d.resolve_left (by decide))), c11 := fun d => .inr (I.c11 (d.resolve_left (by decide))), c12 := fun _ i hi => .inr (hall12 i hi), fin := fun _ => ⟨W, A', cap', rfl, hbW, d9⟩ }⟩
  · intro D a W hall hI
    obtain ⟨v32, v33, v34, v35, v36, v37, v38, v39, v40, v41, v42, v43, rfl, I⟩ := hI
    have hall' : ∀ i, i < 13 → D i := hall
    obtain ⟨W0, A', cap', rfl, hbW, hown⟩ := I.fin (hall' 12 (by omega))
    clear I hall hall'
    have hL : (r.log ++ [x]).length = r.log.length + 1 := by simp
    have hown' : W0.ownsRow 0 55 2 (.slice A' (r.log ++ [x]).length cap') (r.log ++ [x]).length (recsCells (r.log ++ [x])) := by rw [hL]; exact own_mono hown (Nat.zero_le _)
    have hR : QOk (W0.setCell ⟨b, 3, none⟩ (.slice A' (r.log.length + 1) cap')) b { r with log := r.log ++ [⟨r.hard.term, data⟩] } A' cap' gv gn gm := by
      refine ⟨?_, HWF.out⟩
      have := QB.putLog (HRW.out.toQB.below hbW (Nat.le_refl _)) (r.log ++ [x]) A' cap' hown'
      rw [hL, HX0.out] at this
      exact this
    have hbne : ∀ {k T}, Kind Wc k T → T ≠ 67 → k ≠ b := fun hk hT => hk.ne HRW.out.kind hT
    have hF : Fr (QS b A gv gn gm) w (W0.setCell ⟨b, 3, none⟩ (.slice A' (r.log.length + 1) cap')) := (HFW.out.trans (Fr.of_below hbW)).setCell (p := ⟨b, 3, none⟩) (.inl (.inl rfl)) _
    have hZ : (W0.setCell ⟨b, 3, none⟩ (.slice A' (r.log.length + 1) cap')).heap[w.heap.size]? = some zOut := (other_blk (hbne (T := 45) ⟨_, _, HZW.out⟩ (by decide))).trans ((hbW.block _ (lt_blk HZW.out)).trans HZW.out)
    have hX : (W0.setCell ⟨b, 3, none⟩ (.slice A' (r.log.length + 1) cap')).heap[w.heap.size + 1]? = some (.cells [.int .i64 r.hard.term, .string data].toArray 55) := (other_blk (hbne (T := 55) ⟨_, _, HXW.out⟩ (by decide))).trans ((hbW.block _ (lt_blk HXW.out)).trans HXW.out)
    have hA : ∀ k, QS b A' gv gn gm k → QS b A gv gn gm k ∨ w.heap.size ≤ k := by
      have hws := HFW.out.size
      rintro k (q | ⟨ad, q, rfl⟩ | q)
      · exact .inl (.inl q)
      · have := (own_lt hown (k := ad.block) (by rw [q]; rfl)).1; right; omega
      · exact .inl (.inr (.inr q))
    clear hown hown' hbW hbne x0 x1 c3 hlx HRW HFW HZW HXW HWb
    generalize W0.setCell ⟨b, 3, none⟩ (.slice A' (r.log.length + 1) cap') = V at *
    have c3 := hR.cells.2.2.2.1
    have hbV := hR.lt
    have x0 := cell_blk hX 0
    have x1 := cell_blk hX 1
    simp only [List.getElem?_cons_succ, List.getElem?_cons_zero] at x0 x1
    have hxL := lt_blk hX
    have hzL := lt_blk hZ
    have hL : (r.log ++ [(⟨r.hard.term, data⟩ : Rec)]).length ≤ 4000 := by simp; omega
    generalize hr1 : ({ r with log := r.log ++ [⟨r.hard.term, data⟩] } : Rep) = r1 at *
    have c3 : V.cell? ⟨b, 3, none⟩ = some (.slice A' r1.log.length cap') := hR.cells.2.2.2.1
    have HR := Lib.hid hR
    have HF := Lib.hid hF
    have HZ := Lib.hid hZ
    have HX := Lib.hid hX
    clear hR hF hZ hX
    go_upto_region 9 with fail
    have HNX1 : Hid (∀ j : Nat, j < 3 → 1 ≤ r1.next.getD j 0 ∧ r1.next.getD j 0 ≤ r1.log.length + 1) := HNX.out
    have hne3 : b ≠ w.heap.size := by have := HH.out.lt; omega
    have hneX : (w.heap.size + 1) ≠ w.heap.size := by omega
    have hA'ne : ∀ k, QS b A' gv gn gm k → ¬ k = w.heap.size := by
      rintro k hq rfl
      exact HR.out.not45 hq ⟨by decide, by decide, by decide, by decide⟩ ⟨_, _, HZ.out⟩
    have hS : ∀ w', (Fr (fun k => k = w.heap.size) V w' ∧ P6 w' w.heap.size) → ((Fr (fun k => k = w.heap.size) V w' ∧ P6 w' w.heap.size) ∧ w'.cell? ⟨b, 3, none⟩ = some (.slice A' r1.log.length cap') ∧ w'.cell? ⟨(w.heap.size + 1), 0, none⟩ = some (.int .i64 r.hard.term) ∧ w'.cell? ⟨(w.heap.size + 1), 1, none⟩ = some (.string data)) := fun w' ⟨hf, h6⟩ =>
      ⟨⟨hf, h6⟩, (World.cell?_of_block (w := V) (hf.block b hbV hne3)).trans c3, (World.cell?_of_block (w := V) (hf.block (w.heap.size + 1) hxL hneX)).trans x0, (World.cell?_of_block (w := V) (hf.block (w.heap.size + 1) hxL hneX)).trans x1⟩
    have HSS := Lib.hid hS
    have HA' := Lib.hid hA'ne
    have HNX1 : Hid (∀ j : Nat, j < 3 → 1 ≤ r1.next.getD j 0 ∧ r1.next.getD j 0 ≤ r1.log.length + 1) := HNX.out
    have HP6 : Hid (P6 V w.heap.size) := ⟨_, HZ.out, rfl⟩
    clear hS hA'ne c3 x0 x1
    refine wp_region_noPanic ?_
    refine wp_region_held_drew (S := fun w' => (Fr (fun k => k = w.heap.size) V w' ∧ P6 w' w.heap.size) ∧ w'.cell? ⟨b, 3, none⟩ = some (.slice A' r1.log.length cap') ∧ w'.cell? ⟨(w.heap.size + 1), 0, none⟩ = some (.int .i64 r.hard.term) ∧ w'.cell? ⟨(w.heap.size + 1), 1, none⟩ = some (.string data)) (by kernel_rfl) (HSS.out _ ⟨(Fr.refl _ _).drew, HP6.out⟩) (fun hHeld => ?_)
    refine wpAnyH_take (i := 0) (v := ?_) rfl (by kernel_rfl) (by kernel_rfl) (by kernel_rfl) (fun _ _ _ h => h) (Or.inl ⟨by rfl, ?_⟩) (by assumption) ?_
    rotate_left 1
    · intro w' hSw
      (try dsimp only at hSw)
      go_simp
      (try with_reducible rfl)
    (try simp only [Act.put, List.setIfInBounds_toArray, List.set_cons_zero, List.set_cons_succ])
    refine wpAnyH_take (i := 1) (v := ?_) rfl (by kernel_rfl) (by kernel_rfl) (by kernel_rfl) (fun _ _ _ h => h) (Or.inl ⟨by rfl, ?_⟩) (by assumption) ?_
    rotate_left 1
    · intro w' hSw
      (try dsimp only at hSw)
      go_simp
      (try with_reducible rfl)
    (try simp only [Act.put, List.setIfInBounds_toArray, List.set_cons_zero, List.set_cons_succ])
    refine wpAnyH_take (i := 2) (v := ?_) rfl (by kernel_rfl) (by kernel_rfl) (by kernel_rfl) (fun _ _ _ h => h) (Or.inl ⟨by rfl, ?_⟩) (by assumption) ?_
    rotate_left 1
    · intro w' hSw
      (try dsimp only at hSw)
      go_simp
      (try with_reducible rfl)
    (try simp only [Act.put, List.setIfInBounds_toArray, List.set_cons_zero, List.set_cons_succ])
    refine wpAnyH_take (i := 3) (v := ?_) rfl (by kernel_rfl) (by kernel_rfl) (by kernel_rfl) (fun _ _ _ h => h) (Or.inl ⟨by rfl, ?_⟩) (by assumption) ?_
    rotate_left 1
    · intro w' hSw
      (try dsimp only at hSw)
      go_simp
      (try with_reducible rfl)
    (try simp only [Act.put, List.setIfInBounds_toArray, List.set_cons_zero, List.set_cons_succ])
    refine wpAnyH_take (i := 4) (v := ?_) rfl (by kernel_rfl) (by kernel_rfl) (by kernel_rfl) (fun _ _ _ h => h) (Or.inl ⟨by rfl, ?_⟩) (by assumption) ?_
    rotate_left 1
    · intro w' hSw
      (try dsimp only at hSw)
      go_simp
      (try with_reducible rfl)
    (try simp only [Act.put, List.setIfInBounds_toArray, List.set_cons_zero, List.set_cons_succ])
    refine wpAnyH_take (i := 5) (v := ?_) rfl (by kernel_rfl) (by kernel_rfl) (by kernel_rfl) (fun _ _ _ h => h) (Or.inl ⟨by rfl, ?_⟩) (by assumption) ?_
    rotate_left 1
    · intro w' hSw
      (try dsimp only at hSw)
      go_simp
      (try with_reducible rfl)
    (try simp only [Act.put, List.setIfInBounds_toArray, List.set_cons_zero, List.set_cons_succ])
    refine wpAnyH_take (i := 6) (v := ?_) rfl (by kernel_rfl) (by kernel_rfl) (by kernel_rfl) (fun _ _ _ h => h) (Or.inl ⟨by rfl, ?_⟩) (by assumption) ?_
    rotate_left 1
    · intro w' hSw
      (try dsimp only at hSw)
      go_simp
      (try with_reducible rfl)
    (try simp only [Act.put, List.setIfInBounds_toArray, List.set_cons_zero, List.set_cons_succ])
    refine wpAnyH_take (i := 7) (v := ?_) rfl (by kernel_rfl) (by kernel_rfl) (by kernel_rfl) (fun _ _ _ h => h) (Or.inl ⟨by rfl, ?_⟩) (by assumption) ?_
    rotate_left 1
    · intro w' hSw
      (try dsimp only at hSw)
      go_simp
      (try with_reducible rfl)
    (try simp only [Act.put, List.setIfInBounds_toArray, List.set_cons_zero, List.set_cons_succ])
    refine wpAnyH_take (i := 8) (v := ?_) rfl (by kernel_rfl) (by kernel_rfl) (by kernel_rfl) (fun _ _ _ h => h) (Or.inl ⟨by rfl, ?_⟩) (by assumption) ?_
    rotate_left 1
    · intro w' hSw
      (try dsimp only at hSw)
      go_simp
      (try with_reducible rfl)
    (try simp only [Act.put, List.setIfInBounds_toArray, List.set_cons_zero, List.set_cons_succ])
    refine wpAnyH_take (i := 9) (v := ?_) rfl (by kernel_rfl) (by kernel_rfl) (by kernel_rfl) (fun _ _ _ h => h) (Or.inl ⟨by rfl, ?_⟩) (by assumption) ?_
    rotate_left 1
    · intro w' hSw
      (try dsimp only at hSw)
      go_simp
      (try with_reducible rfl)
    (try simp only [Act.put, List.setIfInBounds_toArray, List.set_cons_zero, List.set_cons_succ])
    refine wpAnyH_take (i := 10) (v := ?_) rfl (by kernel_rfl) (by kernel_rfl) (by kernel_rfl) (fun _ _ _ h => h) (Or.inl ⟨by rfl, ?_⟩) (by assumption) ?_
    rotate_left 1
    · intro w' hSw
      (try dsimp only at hSw)
      go_simp
      (try with_reducible rfl)
    (try simp only [Act.put, List.setIfInBounds_toArray, List.set_cons_zero, List.set_cons_succ])
    refine wpAnyH_take (i := 12) (v := ?_) rfl (by kernel_rfl) (by kernel_rfl) (by kernel_rfl) (fun _ _ _ h => h) (Or.inl ⟨by rfl, ?_⟩) (by assumption) ?_
    rotate_left 1
    · intro w' hSw
      (try dsimp only at hSw)
      go_simp
      (try with_reducible rfl)
    (try simp only [Act.put, List.setIfInBounds_toArray, List.set_cons_zero, List.set_cons_succ])
    refine wpAnyH_ready (rs := [11, 13]) (by kernel_rfl) (by simp) ?_
    refine AllReadyH.cons rfl (fun K hK => ?_) (AllReadyH.cons rfl (fun K hK => ?_) AllReadyH.nil)
    · have HHF := hHeld.1.1
      have HH6 := hHeld.1.2
      go_simp
      refine hK.out _ _ (HSS.out _ ⟨Fr.alloc HHF _, P6.below HH6 ((Below.refl _ _).alloc (Nat.le_refl _) _) (Nat.le_refl _)⟩) (fun hHeld2 => ?_)
      clear hK K
      (try simp only [Act.put, List.setIfInBounds_toArray, List.set_cons_zero, List.set_cons_succ])
      refine wpAnyH_ready (rs := [13]) (by kernel_rfl) (by simp) ?_
      refine AllReadyH.cons rfl (fun K hK => ?_) AllReadyH.nil
      clear HHF HH6
      have HHF := hHeld2.1.1
      have HH6 := hHeld2.1.2
      go_simp
      go_at_call 51
      refine (qall_calls (r := r1) (b := b) (A := A') (cap := cap') (gv := gv) (gn := gn) (gm := gm) (HR.out.fr HHF HA'.out) HNX1.out).mono ?_
      rintro e w6 ⟨sv, rfl, hms, hb6⟩
      obtain ⟨sA, sc, rfl⟩ := msgs_form hms
      have HMS := Lib.hid hms
      have HB6 := Lib.hid hb6
      clear hms hb6
      go_simp
      refine hK.out _ _ (HSS.out _ ⟨Fr.trans HHF (Fr.of_below HB6.out), P6.below HH6 HB6.out (Nat.le_refl _)⟩) (fun hHeld3 => ?_)
      clear hK K
      (try simp only [Act.put, List.setIfInBounds_toArray, List.set_cons_zero, List.set_cons_succ])
      refine wpAnyH_take (i := 14) (v := ?_) rfl (by kernel_rfl) (by kernel_rfl) (by kernel_rfl) (fun _ _ _ h => h) (Or.inl ⟨by rfl, ?_⟩) (by assumption) ?_
      rotate_left 1
      · intro w' hSw
        (try dsimp only at hSw)
        go_simp
        (try with_reducible rfl)
      (try simp only [Act.put, List.setIfInBounds_toArray, List.set_cons_zero, List.set_cons_succ])
      refine wpAnyH_take (i := 15) (v := ?_) rfl (by kernel_rfl) (by kernel_rfl) (by kernel_rfl) (fun _ _ _ h => h) (Or.inl ⟨by rfl, ?_⟩) (by assumption) ?_
      rotate_left 1
      · intro w' hSw
        (try dsimp only at hSw)
        go_simp
        (try with_reducible rfl)
      (try simp only [Act.put, List.setIfInBounds_toArray, List.set_cons_zero, List.set_cons_succ])
      refine wpAnyH_take (i := 16) (v := ?_) rfl (by kernel_rfl) (by kernel_rfl) (by kernel_rfl) (fun _ _ _ h => h) (Or.inl ⟨by rfl, ?_⟩) (by assumption) ?_
      rotate_left 1
      · intro w' hSw
        (try dsimp only at hSw)
        go_simp
        (try with_reducible rfl)
      (try simp only [Act.put, List.setIfInBounds_toArray, List.set_cons_zero, List.set_cons_succ])
      have HHG := hHeld3.1.1
      obtain ⟨cs, hcs1, hcs2⟩ := hHeld3.1.2
      refine wpAnyH_ready (rs := [17]) (by kernel_rfl) (by simp) ?_
      refine AllReadyH.cons rfl (fun K hK => ?_) AllReadyH.nil
      rw [if_pos (by rfl)]
      refine wp_store_row 45 (.tmp 6) (.tmp 58) rfl w.heap.size _ rfl rfl 45 cs hcs1 size45 hcs2 (by rw [← Array.all_toList]; rfl) ?_
      refine hK.out _ _ (HSS.out _ ⟨HHG.setRow (.inl rfl) _, ⟨_, setRow_heap _ _ _ _ _ _ hcs1, rfl⟩⟩) (fun hHeld4 => ?_)
      clear hK K
      (try simp only [Act.put, List.setIfInBounds_toArray, List.set_cons_zero, List.set_cons_succ])
      refine wpAnyH_done (by kernel_rfl) (NoPanic.normal ?_) _
      have HB := Lib.hid hcs1
      have HH4 := Lib.hid hHeld4.1.1
      clear hHeld hHeld3 hHeld4 HHG hcs1
      go_wp2_with fail
      refine bodyPost_ret (v := _) (results_ttc' rfl _ _ w.heap.size 45 _ (0, 0) _ rfl (setRow_heap _ _ _ _ _ _ HB.out) Try.underlying45 rfl size45) rfl ?_
      have hl1 : r1.log = r.log ++ [⟨r.hard.term, data⟩] := by rw [← hr1]
      have hE := HE.out
      rw [← hl1] at hE
      rw [hE]
      have hws := HF.out.size
      refine ⟨A', cap', gv, gn, gm, .slice (some ⟨_, 0, none⟩) 1 1, .slice sA _ sc, rfl, HR.out.fr HH4.out HA'.out, hA, ⟨?_, ?_⟩, HF.out.trans2 HH4.out (fun i e => .inr (by omega))⟩
      · exact own_mono (own_fr (S := fun k => k = w.heap.size) (own_below (own_one_rec V.drew ⟨r.hard.term, data⟩) HB6.out (Nat.le_refl _)) (fr_setRow _ _ _) (fun q hq e => (own_kind (own_below (own_one_rec V.drew ⟨r.hard.term, data⟩) HB6.out (Nat.le_refl _)) hq).ne ⟨_, _, HB.out⟩ (by decide) e)) (by show w.heap.size ≤ V.heap.size; omega)
      · exact (HMS.out.fr (S := fun k => k = w.heap.size) (fr_setRow _ _ _) (fun k hk q e => by
          rcases q with q | q
          · exact q.ne ⟨_, _, HB.out⟩ (by decide) e
          · exact q.ne ⟨_, _, HB.out⟩ (by decide) e)).mono (by simp; omega)
    · have HHF := hHeld.1.1
      have HH6 := hHeld.1.2
      go_simp
      go_at_call 51
      refine (qall_calls (r := r1) (b := b) (A := A') (cap := cap') (gv := gv) (gn := gn) (gm := gm) (HR.out.fr HHF HA'.out) HNX1.out).mono ?_
      rintro e w6 ⟨sv, rfl, hms, hb6⟩
      obtain ⟨sA, sc, rfl⟩ := msgs_form hms
      have HMS := Lib.hid hms
      have HB6 := Lib.hid hb6
      clear hms hb6
      go_simp
      refine hK.out _ _ (HSS.out _ ⟨Fr.trans HHF (Fr.of_below HB6.out), P6.below HH6 HB6.out (Nat.le_refl _)⟩) (fun hHeld2 => ?_)
      clear hK K
      (try simp only [Act.put, List.setIfInBounds_toArray, List.set_cons_zero, List.set_cons_succ])
      refine wpAnyH_take (i := 15) (v := ?_) rfl (by kernel_rfl) (by kernel_rfl) (by kernel_rfl) (fun _ _ _ h => h) (Or.inl ⟨by rfl, ?_⟩) (by assumption) ?_
      rotate_left 1
      · intro w' hSw
        (try dsimp only at hSw)
        go_simp
        (try with_reducible rfl)
      (try simp only [Act.put, List.setIfInBounds_toArray, List.set_cons_zero, List.set_cons_succ])
      refine wpAnyH_take (i := 16) (v := ?_) rfl (by kernel_rfl) (by kernel_rfl) (by kernel_rfl) (fun _ _ _ h => h) (Or.inl ⟨by rfl, ?_⟩) (by assumption) ?_
      rotate_left 1
      · intro w' hSw
        (try dsimp only at hSw)
        go_simp
        (try with_reducible rfl)
      (try simp only [Act.put, List.setIfInBounds_toArray, List.set_cons_zero, List.set_cons_succ])
      refine wpAnyH_ready (rs := [11]) (by kernel_rfl) (by simp) ?_
      refine AllReadyH.cons rfl (fun K hK => ?_) AllReadyH.nil
      clear HHF HH6
      have HHF := hHeld2.1.1
      have HH6 := hHeld2.1.2
      have HP2 := Lib.hid HH6
      have hs6 : V.heap.size ≤ w6.heap.size := HB6.out.size
      go_simp
      refine hK.out _ _ (HSS.out _ ⟨Fr.alloc HHF _, P6.below HH6 ((Below.refl _ _).alloc (Nat.le_refl _) _) (Nat.le_refl _)⟩) (fun hHeld3 => ?_)
      clear hK K
      (try simp only [Act.put, List.setIfInBounds_toArray, List.set_cons_zero, List.set_cons_succ])
      refine wpAnyH_take (i := 14) (v := ?_) rfl (by kernel_rfl) (by kernel_rfl) (by kernel_rfl) (fun _ _ _ h => h) (Or.inl ⟨by rfl, ?_⟩) (by assumption) ?_
      rotate_left 1
      · intro w' hSw
        (try dsimp only at hSw)
        go_simp
        (try with_reducible rfl)
      (try simp only [Act.put, List.setIfInBounds_toArray, List.set_cons_zero, List.set_cons_succ])
      have HHG := hHeld3.1.1
      obtain ⟨cs, hcs1, hcs2⟩ := hHeld3.1.2
      refine wpAnyH_ready (rs := [17]) (by kernel_rfl) (by simp) ?_
      refine AllReadyH.cons rfl (fun K hK => ?_) AllReadyH.nil
      rw [if_pos (by rfl)]
      refine wp_store_row 45 (.tmp 6) (.tmp 58) rfl w.heap.size _ rfl rfl 45 cs hcs1 size45 hcs2 (by rw [← Array.all_toList]; rfl) ?_
      refine hK.out _ _ (HSS.out _ ⟨HHG.setRow (.inl rfl) _, ⟨_, setRow_heap _ _ _ _ _ _ hcs1, rfl⟩⟩) (fun hHeld4 => ?_)
      clear hK K
      (try simp only [Act.put, List.setIfInBounds_toArray, List.set_cons_zero, List.set_cons_succ])
      refine wpAnyH_done (by kernel_rfl) (NoPanic.normal ?_) _
      have HB := Lib.hid hcs1
      have HH4 := Lib.hid hHeld4.1.1
      clear hHeld hHeld3 hHeld4 HHG hcs1
      go_wp2_with fail
      refine bodyPost_ret (v := _) (results_ttc' rfl _ _ w.heap.size 45 _ (0, 0) _ rfl (setRow_heap _ _ _ _ _ _ HB.out) Try.underlying45 rfl size45) rfl ?_
      have hl1 : r1.log = r.log ++ [⟨r.hard.term, data⟩] := by rw [← hr1]
      have hE := HE.out
      rw [← hl1] at hE
      rw [hE]
      have hws := HF.out.size
      refine ⟨A', cap', gv, gn, gm, .slice (some ⟨_, 0, none⟩) 1 1, .slice sA _ sc, rfl, HR.out.fr HH4.out HA'.out, hA, ⟨?_, ?_⟩, HF.out.trans2 HH4.out (fun i e => .inr (by omega))⟩
      · exact own_mono (own_fr (S := fun k => k = w.heap.size) (own_one_rec w6 ⟨r.hard.term, data⟩) (fr_setRow _ _ _) (fun q hq e => (own_kind (own_one_rec w6 ⟨r.hard.term, data⟩) hq).ne ⟨_, _, HB.out⟩ (by decide) e)) (by omega)
      · obtain ⟨cs2, hc2, _⟩ := HP2.out
        exact (HMS.out.fr (S := fun k => k = w.heap.size) ((((Fr.refl (fun k => k = w.heap.size) w6).alloc _)).setRow (.inl rfl) _) (fun k hk q e => by
          rcases q with q | q
          · exact q.ne ⟨_, _, hc2⟩ (by decide) e
          · exact q.ne ⟨_, _, hc2⟩ (by decide) e)).mono (by show w.heap.size ≤ V.heap.size; omega)

theorem qpropose_calls (h : QOk w b r A cap gv gn gm) (data : ByteArray) (hdl : data.size ≤ 9223372036854775807) (ht : r.role = 2 → 1 ≤ r.hard.term) :
    Calls Try.prog 26 #[.pointer (some ⟨b, 0, none⟩), .string data] w (AfterPQ w b A gv gn gm (M.propose r data).1 (M.propose r data).2.1 (M.propose r data).2.2.1 (M.propose r data).2.2.2) := by
  by_cases h1 : r.role = 2
  · by_cases h2 : 2000 < data.size
    · exact qpropose_calls_no h data hdl (.inr (.inl h2))
    · by_cases h3 : r.log.length = 4000
      · exact qpropose_calls_no h data hdl (.inr (.inr h3))
      · exact qpropose_calls_yes h data h1 (by omega) h3 (ht h1)
  · exact qpropose_calls_no h data hdl (.inl h1)
end
end Go.Proofs.Ytodmihpmbecncaa
