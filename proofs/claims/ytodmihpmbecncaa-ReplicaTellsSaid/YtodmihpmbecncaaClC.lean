/-
  Walk of the cluster's start: a replica begins again with what is stored. Condition: what is stored is right.
-/
import Derived.Test.YtodmihpmbecncaaClB
namespace Go.Proofs.Ytodmihpmbecncaa
open Go.RowKit

section
variable {w : World} {cb : Nat} {x : M.Cl} {L : Lay}

theorem ClOk.cells (h : ClOk w cb x L) : w.cell? ⟨cb, 0, none⟩ = some (.slice (some ⟨L.rA, 0, none⟩) 3 L.rc) ∧ w.cell? ⟨cb, 1, none⟩ = some (.slice (some ⟨L.sA, 0, none⟩) 3 L.sc) ∧ w.cell? ⟨cb, 2, none⟩ = some (.slice L.mA x.sent.length L.mc) :=
  ⟨cell_blk h.blk 0, cell_blk h.blk 1, cell_blk h.blk 2⟩
theorem lt3 {i : Nat} (hi : i < 3) : i = 0 ∨ i = 1 ∨ i = 2 := by omega
theorem stsC_at (s : List M.St) (lv : Nat → Value) {i : Nat} (hi : i < 3) :
    (stsC s lv)[i * 4]? = some (.int .i64 (s.getD i M.zSt).hard.term) ∧ (stsC s lv)[i * 4 + 1]? = some (.int .i64 (s.getD i M.zSt).hard.vote) ∧ (stsC s lv)[i * 4 + 2]? = some (lv i) ∧ (stsC s lv)[i * 4 + 3]? = some (.int .i64 (s.getD i M.zSt).stop) := by
  rcases lt3 hi with rfl | rfl | rfl <;> exact ⟨rfl, rfl, rfl, rfl⟩
theorem ClOk.scells (h : ClOk w cb x L) {i : Nat} (hi : i < 3) :
    w.cell? ⟨L.sA, i * 4, none⟩ = some (.int .i64 (x.s.getD i M.zSt).hard.term) ∧ w.cell? ⟨L.sA, i * 4 + 1, none⟩ = some (.int .i64 (x.s.getD i M.zSt).hard.vote) ∧
    w.cell? ⟨L.sA, i * 4 + 2, none⟩ = some (L.lv i) ∧ w.cell? ⟨L.sA, i * 4 + 3, none⟩ = some (.int .i64 (x.s.getD i M.zSt).stop) := by
  obtain ⟨h1, h2, h3, h4⟩ := stsC_at x.s L.lv hi
  exact ⟨(h.srow.cellAt _ (by omega)).trans h1, (h.srow.cellAt _ (by omega)).trans h2, (h.srow.cellAt _ (by omega)).trans h3, (h.srow.cellAt _ (by omega)).trans h4⟩
theorem ClOk.rcell (h : ClOk w cb x L) {i : Nat} (hi : i < 3) : w.cell? ⟨L.rA, i, none⟩ = some (ptrV (L.bs i)) := by
  refine (h.rrow.cellAt _ (by omega)).trans ?_
  rcases lt3 hi with rfl | rfl | rfl <;> rfl
theorem ClOk.sfree (h : ClOk w cb x L) (j : Nat) : w.frozen? ⟨L.sA, j, none⟩ = false := h.srow.frozenAt j
theorem ClOk.rfree (h : ClOk w cb x L) (j : Nat) : w.frozen? ⟨L.rA, j, none⟩ = false := h.rrow.frozenAt j

/-- A cell of what is stored is stored anew. -/
theorem ClOk.putS (h : ClOk w cb x L) {i : Nat} (hi : i < 3) (j : Nat) (v : Value) (s' : M.St) (u : Value) (hlen : s'.log = (x.s.getD i M.zSt).log) (hu : u = L.lv i)
    (hc : (stC (x.s.getD i M.zSt) (L.lv i)).set j v = stC s' u) (hj : j < 4) : ClOk (w.setCell ⟨L.sA, i * 4 + j, none⟩ v) cb { x with s := x.s.set i s' } L := by
  subst hu
  have hs : i < x.s.length := by rw [h.sN]; exact hi
  have hf : Fr (fun k => k = L.sA) w (w.setCell ⟨L.sA, i * 4 + j, none⟩ v) := fr_setCell w ⟨L.sA, i * 4 + j, none⟩ v
  have hne : ∀ {k T}, Kind w k T → T ≠ 42 → ¬ k = L.sA := fun hk hT e => hk.ne h.skind hT e
  refine ⟨?_, h.rN, by simpa using h.sN, h.mN, own_fr h.rrow hf (fun k hk => hne (own_kind h.rrow hk) (by decide)), ?_, ?_, ?_, ?_, h.sepB, h.sepA⟩
  · rw [hf.block cb h.kind.lt (hne h.kind (by decide))]; exact h.blk
  · have := (h.srow.stored (i * 4 + j) v).1
    have e : (stsC x.s L.lv).set (i * 4 + j) v = stsC (x.s.set i s') L.lv := by
      match hx : x.s, h.sN with
      | [s0, s1, s2], _ =>
        rw [hx] at hc
        have hj4 : j = 0 ∨ j = 1 ∨ j = 2 ∨ j = 3 := by omega
        rcases lt3 hi with rfl | rfl | rfl <;> rcases hj4 with rfl | rfl | rfl | rfl <;> · simp [stC] at hc; simp [stsC, stC, hc]
    rw [e] at this
    exact this
  · exact fun j hj => (h.rep j hj).fr hf (fun k hk => by
      rcases hk with rfl | ⟨ad, e1, rfl⟩
      · exact hne (h.bkind hj) (by decide)
      · exact hne (h.akind hj e1) (by decide))
  · intro k hk
    have hl : ((x.s.set i s').getD k M.zSt).log = (x.s.getD k M.zSt).log := by
      by_cases e : k = i
      · subst e; rw [M.getD_set_eq _ _ _ _ hs]; exact hlen
      · rw [M.getD_set_ne _ _ _ (fun h => e h.symm)]
    show World.ownsRow _ _ _ _ _ ((x.s.set i s').getD k M.zSt).log.length (recsCells ((x.s.set i s').getD k M.zSt).log) ∧ _
    rw [hl]
    exact ⟨own_fr (h.slog k hk).1 hf (fun k hk' => hne (own_kind (h.slog _ hk).1 hk') (by decide)), (h.slog k hk).2⟩
  · exact h.sent.fr hf (fun k hk => by
      obtain ⟨ps, _, h2, _⟩ := h.sent
      exact hne (own_kind h2 hk) (by decide)) (fun k hk _ _ => hne hk (by decide)) (fun _ _ h => h)

/-- The stored log is stored anew. -/
theorem ClOk.putL (h : ClOk w cb x L) {i : Nat} (hi : i < 3) (l : List Rec) (u : Value) (ho : w.ownsRow 0 55 2 u l.length (recsCells l)) (hX : ∀ k, u.ownBlock = some k → ¬ rowsX L k) :
    ClOk (w.setCell ⟨L.sA, i * 4 + 2, none⟩ u) cb { x with s := x.s.set i { x.s.getD i M.zSt with log := l } } { L with lv := M.up L.lv i u } := by
  have hs : i < x.s.length := by rw [h.sN]; exact hi
  have hf : Fr (fun k => k = L.sA) w (w.setCell ⟨L.sA, i * 4 + 2, none⟩ u) := fr_setCell w ⟨L.sA, i * 4 + 2, none⟩ u
  have hne : ∀ {k T}, Kind w k T → T ≠ 42 → ¬ k = L.sA := fun hk hT e => hk.ne h.skind hT e
  refine ⟨?_, h.rN, by simpa using h.sN, h.mN, own_fr h.rrow hf (fun k hk => hne (own_kind h.rrow hk) (by decide)), ?_, ?_, ?_, ?_, h.sepB, h.sepA⟩
  · show (w.setCell _ _).heap[cb]? = _
    rw [hf.block cb h.kind.lt (hne h.kind (by decide))]; exact h.blk
  · have := (h.srow.stored (i * 4 + 2) u).1
    have e : (stsC x.s L.lv).set (i * 4 + 2) u = stsC (x.s.set i { x.s.getD i M.zSt with log := l }) (M.up L.lv i u) := by
      match hx : x.s, h.sN with
      | [s0, s1, s2], _ =>
        rcases lt3 hi with rfl | rfl | rfl <;> simp [stsC, stC, M.up]
    rw [e] at this
    exact this
  · exact fun j hj => (h.rep j hj).fr hf (fun k hk => by
      rcases hk with rfl | ⟨ad, e1, rfl⟩
      · exact hne (h.bkind hj) (by decide)
      · exact hne (h.akind hj e1) (by decide))
  · intro k hk
    show World.ownsRow _ _ _ _ (M.up L.lv i u k) ((x.s.set i { x.s.getD i M.zSt with log := l }).getD k M.zSt).log.length (recsCells ((x.s.set i { x.s.getD i M.zSt with log := l }).getD k M.zSt).log) ∧ ∀ q, (M.up L.lv i u k).ownBlock = some q → ¬ rowsX L q
    by_cases e : k = i
    · subst e
      rw [M.getD_set_eq _ _ _ _ hs, M.up_at]
      exact ⟨own_fr ho hf (fun k hk' => hne (own_kind ho hk') (by decide)), hX⟩
    · rw [M.getD_set_ne _ _ _ (fun h => e h.symm), M.up_ne _ _ e]
      exact ⟨own_fr (h.slog k hk).1 hf (fun k hk' => hne (own_kind (h.slog _ hk).1 hk') (by decide)), (h.slog k hk).2⟩
  · exact h.sent.fr hf (fun k hk => by
      obtain ⟨ps, _, h2, _⟩ := h.sent
      exact hne (own_kind h2 hk) (by decide)) (fun k hk _ _ => hne hk (by decide)) (fun _ _ h => h)

/-- A replica is put in the place of another. -/
theorem ClOk.putR (h : ClOk w cb x L) {w2 : World} {i b0 : Nat} (hi : i < 3) {r' : Rep} {A' : Option Addr} {cap' : Nat} (hb : Below w.heap.size w w2) (hR : RepOk w2 b0 r' A' cap') (h0 : w.heap.size ≤ b0) (hA : ∀ ad, A' = some ad → w.heap.size ≤ ad.block) :
    ClOk (w2.setCell ⟨L.rA, i, none⟩ (ptrV b0)) cb { x with r := x.r.set i r' } { L with bs := M.up L.bs i b0, As := M.up L.As i A', caps := M.up L.caps i cap' } := by
  have h2 := h.below hb
  have hf : Fr (fun k => k = L.rA) w2 (w2.setCell ⟨L.rA, i, none⟩ (ptrV b0)) := fr_setCell w2 ⟨L.rA, i, none⟩ (ptrV b0)
  have hne : ∀ {k T}, Kind w2 k T → T ≠ 46 → ¬ k = L.rA := fun hk hT e => hk.ne h2.rkind hT e
  have hX : ∀ k, k < w.heap.size → rowsX { L with bs := M.up L.bs i b0, As := M.up L.As i A', caps := M.up L.caps i cap' } k → rowsX L k := fun k hk ⟨j, hj, ad, e, e2⟩ => by
    by_cases hji : j = i
    · subst hji
      change M.up L.As j A' j = some ad at e
      rw [M.up_at] at e
      have := hA ad e; omega
    · change M.up L.As i A' j = some ad at e
      rw [M.up_ne _ _ hji] at e
      exact ⟨j, hj, ad, e, e2⟩
  have hlt : ∀ j, j < 3 → ∀ b, L.As j = some b → b.block < w.heap.size := fun j hj b e => (h.akind hj e).lt
  refine ⟨?_, by simpa using h.rN, h.sN, h.mN, ?_, own_fr h2.srow hf (fun k hk => hne (own_kind h2.srow hk) (by decide)), ?_, ?_, ?_, ?_, ?_⟩
  · show (w2.setCell _ _).heap[cb]? = _
    rw [hf.block cb h2.kind.lt (hne h2.kind (by decide))]; exact h2.blk
  · have := (h2.rrow.stored i (ptrV b0)).1
    have e : (ptrs L).set i (ptrV b0) = ptrs { L with bs := M.up L.bs i b0, As := M.up L.As i A', caps := M.up L.caps i cap' } := by
      rcases lt3 hi with rfl | rfl | rfl <;> simp [ptrs, M.up]
    rw [e] at this
    exact this
  · intro j hj
    show RepOk _ (M.up L.bs i b0 j) ((x.r.set i r').getD j M.zRep) (M.up L.As i A' j) (M.up L.caps i cap' j)
    by_cases e : j = i
    · subst e
      rw [M.getD_set_eq _ _ _ _ (by rw [h.rN]; exact hj), M.up_at, M.up_at, M.up_at]
      exact hR.fr hf (fun k hk => by
        rcases hk with rfl | ⟨ad, e1, rfl⟩
        · exact hne hR.kind (by decide)
        · exact hne (own_kind hR.own (k := ad.block) (by rw [e1]; rfl)) (by decide))
    · rw [M.getD_set_ne _ _ _ (fun h => e h.symm), M.up_ne _ _ e, M.up_ne _ _ e, M.up_ne _ _ e]
      exact (h2.rep j hj).fr hf (fun k hk => by
        rcases hk with rfl | ⟨ad, e1, rfl⟩
        · exact hne (h2.bkind hj) (by decide)
        · exact hne (h2.akind hj e1) (by decide))
  · intro j hj
    exact ⟨own_fr (h2.slog j hj).1 hf (fun k hk => hne (own_kind (h2.slog j hj).1 hk) (by decide)), fun k hk hx => (h.slog j hj).2 k hk (hX k (own_lt (h.slog j hj).1 hk).2 hx)⟩
  · obtain ⟨ps, p1, p2, p3⟩ := h.sent
    refine ⟨ps, p1, own_fr (own_below p2 hb (Nat.le_refl _)) hf (fun k hk => hne (own_kind (own_below p2 hb (Nat.le_refl _)) hk) (by decide)), fun p hp => ⟨own_fr (own_below (p3 p hp).1 hb (Nat.le_refl _)) hf (fun k hk => hne (own_kind (own_below (p3 p hp).1 hb (Nat.le_refl _)) hk) (by decide)), fun k hk hx => (p3 p hp).2 k hk (hX k (own_lt (p3 p hp).1 hk).2 hx)⟩⟩
  · intro j k hj hk hjk
    show M.up L.bs i b0 j ≠ M.up L.bs i b0 k
    by_cases hji : j = i
    · subst hji
      rw [M.up_at, M.up_ne _ _ (fun e => hjk e.symm)]
      have := (h.bkind hk).lt
      omega
    · rw [M.up_ne _ _ hji]
      by_cases hki : k = i
      · subst hki
        rw [M.up_at]
        have := (h.bkind hj).lt
        omega
      · rw [M.up_ne _ _ hki]; exact h.sepB j k hj hk hjk
  · intro j k hj hk hjk a b ea eb
    change M.up L.As i A' j = some a at ea
    change M.up L.As i A' k = some b at eb
    by_cases hji : j = i
    · subst hji
      rw [M.up_at] at ea
      rw [M.up_ne _ _ (fun e => hjk e.symm)] at eb
      have := hA a ea; have := hlt k hk b eb; omega
    · rw [M.up_ne _ _ hji] at ea
      by_cases hki : k = i
      · subst hki
        rw [M.up_at] at eb
        have := hA b eb; have := hlt j hj a ea; omega
      · rw [M.up_ne _ _ hki] at eb
        exact h.sepA j k hj hk hjk a b ea eb
theorem ClS.of_new {i b0 k n : Nat} {A' : Option Addr} {cap' : Nat} (h0 : n ≤ b0) (hA : ∀ ad, A' = some ad → n ≤ ad.block) (hk : k < n)
    (h : ClS cb { L with bs := M.up L.bs i b0, As := M.up L.As i A', caps := M.up L.caps i cap' } k) : ClS cb L k := by
  rcases h with h | h | h | h | ⟨j, hj, h⟩
  · exact .inl h
  · exact .inr (.inl h)
  · exact .inr (.inr (.inl h))
  · exact .inr (.inr (.inr (.inl h)))
  · refine .inr (.inr (.inr (.inr ⟨j, hj, ?_⟩)))
    by_cases e : j = i
    · subst e
      rcases h with h | ⟨ad, e1, e2⟩
      · change k = M.up L.bs j b0 j at h
        rw [M.up_at] at h
        omega
      · change M.up L.As j A' j = some ad at e1
        rw [M.up_at] at e1
        have := hA ad e1
        omega
    · rcases h with h | ⟨ad, e1, e2⟩
      · change k = M.up L.bs i b0 j at h
        rw [M.up_ne _ _ e] at h
        exact .inl h
      · change M.up L.As i A' j = some ad at e1
        rw [M.up_ne _ _ e] at e1
        exact .inr ⟨ad, e1, e2⟩

theorem bcell {W w1 : World} (hb : Below W.heap.size W w1) : (∀ b o, b < W.heap.size → w1.cell? ⟨b, o, none⟩ = W.cell? ⟨b, o, none⟩) ∧ (∀ b o, b < W.heap.size → w1.frozen? ⟨b, o, none⟩ = W.frozen? ⟨b, o, none⟩) :=
  ⟨fun b o h => hb.cell (p := ⟨b, o, none⟩) h, fun b o h => hb.frozen (p := ⟨b, o, none⟩) h⟩

set_option maxHeartbeats 800000 in
theorem start_calls (h : ClOk w cb x L) {i : Nat} (hi : i < 3) (hn : M.new i (x.s.getD i M.zSt).hard (x.s.getD i M.zSt).log = some (M.made i (x.s.getD i M.zSt))) :
    Calls Try.prog 32 #[ptrV cb, .int .i64 i] w (ClPost w cb L (M.start x i)) := by
  obtain ⟨c0, c1, c2⟩ := h.cells
  obtain ⟨s0, s1, s2, s3⟩ := h.scells hi
  have fs := h.sfree (i * 4 + 3)
  have hiI : (i : Int) < 3 := by omega
  have HH := Lib.hid h
  have HN := Lib.hid hn
  clear h hn
  unfold ptrV at *
  go_enter Try.func32, Try.ntmps32
  go_wp2_with fail
  refine wp_world (fun W => ClOk W cb { x with s := x.s.set i { x.s.getD i M.zSt with stop := 0 } } L ∧ Fr (ClS cb L) w W ∧ W.heap.size = w.heap.size)
    ⟨HH.out.putS hi 3 _ _ _ rfl rfl rfl (by omega), (Fr.refl _ w).setCell (p := ⟨L.sA, i * 4 + 3, none⟩) (.inl (.inr (.inr (.inl rfl)))) _, by simp⟩ ?_
  clear c0 c1 c2 s0 s1 s2 s3 fs
  rintro W ⟨h, hF, hz⟩
  have hg : ({ x with s := x.s.set i { x.s.getD i M.zSt with stop := 0 } } : M.Cl).s.getD i M.zSt = { x.s.getD i M.zSt with stop := 0 } := M.getD_set_eq _ _ _ _ (by rw [HH.out.sN]; exact hi)
  obtain ⟨c0, c1, c2⟩ := h.cells
  obtain ⟨s0, s1, s2, s3⟩ := h.scells hi
  have hl := (h.slog i hi).1
  rw [hg] at s0 s1 hl
  clear hg
  have r0 := h.rcell hi
  have fr := h.rfree i
  have n1 := h.kind.ne h.rkind (by decide)
  have n2 := h.skind.ne h.rkind (by decide)
  have n3 := n1.symm
  have n4 := n2.symm
  have hcb := h.kind.lt
  have hrA := h.rkind.lt
  have hsA := h.skind.lt
  unfold ptrV at r0
  have HW := Lib.hid h
  have HF := Lib.hid hF
  dsimp only at hl
  have HL := Lib.hid (Sl.of_own hl)
  have HZ := Lib.hid hz
  clear h hF hl hz s3
  dsimp only at s0 s1
  generalize hsi : x.s.getD i M.zSt = si at *
  have HSI := Lib.hid hsi
  clear hsi
  go_region_held3 (fun w' => w'.cell? ⟨cb, 0, none⟩ = some (.slice (some ⟨L.rA, 0, none⟩) 3 L.rc) ∧ w'.cell? ⟨cb, 1, none⟩ = some (.slice (some ⟨L.sA, 0, none⟩) 3 L.sc) ∧ w'.cell? ⟨L.sA, i * 4, none⟩ = some (.int .i64 si.hard.term) ∧ w'.cell? ⟨L.sA, i * 4 + 1, none⟩ = some (.int .i64 si.hard.vote) ∧ w'.cell? ⟨L.sA, i * 4 + 2, none⟩ = some (L.lv i))
    (go_keep)
    ((first | (go_at_call 21; refine (new_calls (i : Int) si.hard si.log (L.lv i) (HL.out.below (Below.refl _ W).drew (Nat.le_refl _))).mono ?_; rintro e w2 (⟨q1, q2, q3⟩ | ⟨r0', b0, A0, cap0, q1, rfl, q2, q3, q4, q5⟩); · (exact absurd (HN.out.symm.trans q1) (by simp))
               have hb2 : Below W.heap.size W w2 := (Below.refl _ W).drew.trans q5
               have y0 := (hb2.cell (p := ⟨cb, 0, none⟩) hcb).trans c0
               have y1 := (hb2.cell (p := ⟨cb, 1, none⟩) hcb).trans c1
               have y2 := (hb2.cell (p := ⟨L.sA, i * 4, none⟩) hsA).trans s0
               have y3 := (hb2.cell (p := ⟨L.sA, i * 4 + 1, none⟩) hsA).trans s1
               have y4 := (hb2.cell (p := ⟨L.sA, i * 4 + 2, none⟩) hsA).trans s2
               have y5 := (hb2.cell (p := ⟨L.rA, i, none⟩) hrA).trans r0
               have y6 := (hb2.frozen (p := ⟨L.rA, i, none⟩) hrA).trans fr)))
  obtain rfl : M.made i si = r0' := Option.some.inj (HN.out.symm.trans q1)
  have hZs : W.heap.size = w.heap.size := HZ.out
  have hfin := HW.out.putR (b0 := b0) hi hb2 q3 q2 q4
  have hfr : Fr (ClS cb L) w (w2.setCell ⟨L.rA, i, none⟩ (ptrV b0)) := (HF.out.trans (Fr.of_below hb2)).setCell (p := ⟨L.rA, i, none⟩) (.inl (.inr (.inl rfl))) _
  have HFIN := Lib.hid hfin
  have HFR := Lib.hid hfr
  have hq2 : w.heap.size ≤ b0 := by rw [← hZs]; exact q2
  have HQ4 : Hid (∀ ad, A0 = some ad → w.heap.size ≤ ad.block) := fun ad e => by have := q4 ad e; rw [← hZs]; exact this
  clear hfin hfr q1 q2 q3 q4 q5 hb2 hZs HZ
  go_wp2_with fail
  go_ret
  refine ⟨{ L with bs := M.up L.bs i b0, As := M.up L.As i A0, caps := M.up L.caps i cap0 }, rfl, ?_, fun k hk => ClS.of_new hq2 HQ4.out hk, HFR.out⟩
  unfold M.start
  rw [HSI.out]
  exact HFIN.out
end
end Go.Proofs.Ytodmihpmbecncaa
