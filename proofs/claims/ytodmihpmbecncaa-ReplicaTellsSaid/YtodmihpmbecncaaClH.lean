/-
  Walk of the law's begin: a new cluster. No condition.
-/
import Derived.Test.YtodmihpmbecncaaClG
namespace Go.Proofs.Ytodmihpmbecncaa
open Go.RowKit

theorem info46 : (Try.prog.info? 46).map (fun i => (i.zero, i.size, i.bytes)) = some (some (.pointer none), 1, 8) := by kernel_rfl
theorem info42 : (Try.prog.info? 42).map (fun i => (i.zero, i.size, i.bytes)) = some (some (.agg #[.int .i64 0, .int .i64 0, .slice none 0 0, .int .i64 0]), 4, 48) := by kernel_rfl

def st0 : M.St := ⟨⟨0, -1⟩, [], 0⟩
def nilS : Value := .slice none 0 0
def sts0 : List Value := stsC [st0, st0, st0] (fun _ => nilS)

/-- A cluster that is half made. -/
structure BgSt (B : Nat) (w : World) (kr ks : Nat) (L : Lay) (rv sv : Value) : Prop where
  blk : w.heap[B]? = some (.cells [rv, sv, .slice none 0 0].toArray 34)
  rrow : w.ownsRow (B + 1) 46 1 rv kr ((ptrs L).take kr)
  srow : w.ownsRow (B + 1) 42 4 sv ks (sts0.take (ks * 4))
  rep : ∀ j, j < kr → RepOk w (L.bs j) (M.made j st0) (L.As j) (L.caps j)
  newB : ∀ j, j < kr → B < L.bs j
  newA : ∀ j, j < kr → ∀ ad, L.As j = some ad → B < ad.block
  sepB : ∀ i j, i < kr → j < kr → i ≠ j → L.bs i ≠ L.bs j
  sepA : ∀ i j, i < kr → j < kr → i ≠ j → ∀ a b, L.As i = some a → L.As j = some b → a.block ≠ b.block

/-- What begin leaves. -/
def BeginPost (w : World) (e : Ending) (w' : World) : Prop :=
  ∃ L, e = .returned (ptrV w.heap.size) ∧ ClOk w' w.heap.size M.begin_ L ∧ (∀ k, ClS w.heap.size L k → w.heap.size ≤ k) ∧ Below w.heap.size w w'

theorem BgSt.fr {S : Nat → Prop} {B : Nat} {w w' : World} {kr ks : Nat} {L : Lay} {rv sv : Value} (h : BgSt B w kr ks L rv sv) (hf : Fr S w w') (hS : ∀ k, S k → ¬ Kind w k 34 ∧ ¬ Kind w k 46 ∧ ¬ Kind w k 42 ∧ ¬ Kind w k 76 ∧ ¬ Kind w k 55) : BgSt B w' kr ks L rv sv where
  blk := by rw [hf.block B (lt_blk h.blk) (fun e => (hS _ e).1 ⟨_, _, h.blk⟩)]; exact h.blk
  rrow := own_fr h.rrow hf (fun k hk e => (hS _ e).2.1 (own_kind h.rrow hk))
  srow := own_fr h.srow hf (fun k hk e => (hS _ e).2.2.1 (own_kind h.srow hk))
  rep j hj := (h.rep j hj).fr hf (fun k hk e => by
    rcases hk with rfl | ⟨ad, e1, rfl⟩
    · exact (hS _ e).2.2.2.1 (h.rep j hj).kind
    · exact (hS _ e).2.2.2.2 (own_kind (h.rep j hj).own (k := ad.block) (by rw [e1]; rfl)))
  newB := h.newB
  newA := h.newA
  sepB := h.sepB
  sepA := h.sepA
theorem BgSt.below {B : Nat} {w w' : World} {kr ks : Nat} {L : Lay} {rv sv : Value} (h : BgSt B w kr ks L rv sv) (hb : Below w.heap.size w w') : BgSt B w' kr ks L rv sv :=
  h.fr (S := fun _ => False) (Fr.of_below hb) (fun _ h => h.elim)

theorem ptrs_take {L : Lay} {k b0 : Nat} (hk : k < 3) {A : Option Addr} {c : Nat} : (ptrs L).take k ++ [ptrV b0] = (ptrs { L with bs := M.up L.bs k b0, As := M.up L.As k A, caps := M.up L.caps k c }).take (k + 1) := by
  rcases lt3 hk with rfl | rfl | rfl <;> simp [ptrs, M.up]
theorem sts0_take {k : Nat} (hk : k < 3) : sts0.take (k * 4) ++ stC st0 nilS = sts0.take ((k + 1) * 4) := by
  rcases lt3 hk with rfl | rfl | rfl <;> rfl
theorem new0 {k : Nat} (hk : k < 3) : M.new (k : Int) ⟨0, -1⟩ [] = some (M.made k st0) := by
  rcases lt3 hk with rfl | rfl | rfl <;> rfl

/-- One more replica. -/
theorem BgSt.pushR {B : Nat} {w w1 w2 : World} {k ks b0 : Nat} {L : Lay} {rv sv v' : Value} {A : Option Addr} {c : Nat} (h : BgSt B w k ks L rv sv) (hk : k < 3) (hb : Below w.heap.size w w1) (hR : RepOk w1 b0 (M.made k st0) A c) (h0 : w.heap.size ≤ b0) (hA : ∀ ad, A = some ad → w.heap.size ≤ ad.block)
    (hf : Fr (fun q => rv.ownBlock = some q) w1 w2) (hown : w2.ownsRow (B + 1) 46 1 v' (k + 1) ((ptrs L).take k ++ [ptrV b0])) :
    BgSt B (w2.setCell ⟨B, 0, none⟩ v') (k + 1) ks { L with bs := M.up L.bs k b0, As := M.up L.As k A, caps := M.up L.caps k c } v' sv := by
  have h1 := h.below hb
  have hB1 : Kind w1 B 34 := ⟨_, _, h1.blk⟩
  have hF : Fr (fun q => rv.ownBlock = some q ∨ q = B) w1 (w2.setCell ⟨B, 0, none⟩ v') := (hf.mono (fun i hi => .inl (.inl hi))).setCell (p := ⟨B, 0, none⟩) (.inl (.inr rfl)) _
  have hne : ∀ {q T}, Kind w1 q T → T ≠ 46 → T ≠ 34 → ¬ (rv.ownBlock = some q ∨ q = B) := fun hq h1' h2' e => e.elim (fun e => hq.ne (own_kind h1.rrow e) h1' rfl) (fun e => hq.ne hB1 h2' e)
  have hblk2 : w2.heap[B]? = w1.heap[B]? := hf.block B hB1.lt (fun e => hB1.ne (own_kind h1.rrow e) (by decide) rfl)
  have hlt : ∀ j, j < k → L.bs j < w.heap.size ∧ ∀ ad, L.As j = some ad → ad.block < w.heap.size := fun j hj => ⟨(h.rep j hj).lt, fun ad e => (h.rep j hj).rowLt ad e⟩
  have hBw : B < w.heap.size := lt_blk h.blk
  have hrep : ∀ {b r A c}, RepOk w1 b r A c → RepOk (w2.setCell ⟨B, 0, none⟩ v') b r A c := fun h => h.fr hF (fun q hq => by
    rcases hq with rfl | ⟨ad, e1, rfl⟩
    · exact hne h.kind (by decide) (by decide)
    · exact hne (own_kind h.own (k := ad.block) (by rw [e1]; rfl)) (by decide) (by decide))
  refine ⟨?_, ?_, own_fr h1.srow hF (fun q hq => hne (own_kind h1.srow hq) (by decide) (by decide)), ?_, ?_, ?_, ?_, ?_⟩
  · exact set_blk (hblk2.trans h1.blk) 0 v'
  · rw [← ptrs_take hk]
    exact own_fr hown (fr_setCell w2 ⟨B, 0, none⟩ v') (fun q hq e => (own_kind hown hq).ne ⟨_, _, hblk2.trans h1.blk⟩ (by decide) e)
  · intro j hj
    show RepOk _ (M.up L.bs k b0 j) (M.made j st0) (M.up L.As k A j) (M.up L.caps k c j)
    by_cases e : j = k
    · subst e; rw [M.up_at, M.up_at, M.up_at]; exact hrep hR
    · rw [M.up_ne _ _ e, M.up_ne _ _ e, M.up_ne _ _ e]; exact hrep (h1.rep j (by omega))
  · intro j hj
    show B < M.up L.bs k b0 j
    by_cases e : j = k
    · subst e; rw [M.up_at]; omega
    · rw [M.up_ne _ _ e]; exact h.newB j (by omega)
  · intro j hj ad ea
    change M.up L.As k A j = some ad at ea
    by_cases e : j = k
    · subst e; rw [M.up_at] at ea; have := hA ad ea; omega
    · rw [M.up_ne _ _ e] at ea; exact h.newA j (by omega) ad ea
  · intro i j hi hj hij
    show M.up L.bs k b0 i ≠ M.up L.bs k b0 j
    by_cases e : i = k
    · subst e
      rw [M.up_at, M.up_ne _ _ (fun e => hij e.symm)]
      have := (hlt j (by omega)).1; omega
    · rw [M.up_ne _ _ e]
      by_cases e' : j = k
      · subst e'; rw [M.up_at]; have := (hlt i (by omega)).1; omega
      · rw [M.up_ne _ _ e']; exact h.sepB i j (by omega) (by omega) hij
  · intro i j hi hj hij a b ea eb
    change M.up L.As k A i = some a at ea
    change M.up L.As k A j = some b at eb
    by_cases e : i = k
    · subst e
      rw [M.up_at] at ea
      rw [M.up_ne _ _ (fun e => hij e.symm)] at eb
      have := hA a ea
      have := (hlt j (by omega)).2 b eb
      omega
    · rw [M.up_ne _ _ e] at ea
      by_cases e' : j = k
      · subst e'
        rw [M.up_at] at eb
        have := hA b eb
        have := (hlt i (by omega)).2 a ea
        omega
      · rw [M.up_ne _ _ e'] at eb
        exact h.sepA i j (by omega) (by omega) hij a b ea eb
/-- One more store. -/
theorem BgSt.pushS {B : Nat} {w w2 : World} {kr k : Nat} {L : Lay} {rv sv v' : Value} (h : BgSt B w kr k L rv sv) (hk : k < 3)
    (hf : Fr (fun q => sv.ownBlock = some q) w w2) (hown : w2.ownsRow (B + 1) 42 4 v' (k + 1) (sts0.take (k * 4) ++ stC st0 nilS)) :
    BgSt B (w2.setCell ⟨B, 1, none⟩ v') kr (k + 1) L rv v' := by
  have hB1 : Kind w B 34 := ⟨_, _, h.blk⟩
  have hF : Fr (fun q => sv.ownBlock = some q ∨ q = B) w (w2.setCell ⟨B, 1, none⟩ v') := (hf.mono (fun i hi => .inl (.inl hi))).setCell (p := ⟨B, 1, none⟩) (.inl (.inr rfl)) _
  have hne : ∀ {q T}, Kind w q T → T ≠ 42 → T ≠ 34 → ¬ (sv.ownBlock = some q ∨ q = B) := fun hq h1' h2' e => e.elim (fun e => hq.ne (own_kind h.srow e) h1' rfl) (fun e => hq.ne hB1 h2' e)
  have hblk2 : w2.heap[B]? = w.heap[B]? := hf.block B hB1.lt (fun e => hB1.ne (own_kind h.srow e) (by decide) rfl)
  refine ⟨set_blk (hblk2.trans h.blk) 1 v', own_fr h.rrow hF (fun q hq => hne (own_kind h.rrow hq) (by decide) (by decide)), ?_, fun j hj => (h.rep j hj).fr hF (fun q hq => ?_), h.newB, h.newA, h.sepB, h.sepA⟩
  · rw [← sts0_take hk]
    exact own_fr hown (fr_setCell w2 ⟨B, 1, none⟩ v') (fun q hq e => (own_kind hown hq).ne ⟨_, _, hblk2.trans h.blk⟩ (by decide) e)
  · rcases hq with rfl | ⟨ad, e1, rfl⟩
    · exact hne (h.rep j hj).kind (by decide) (by decide)
    · exact hne (own_kind (h.rep j hj).own (k := ad.block) (by rw [e1]; rfl)) (by decide) (by decide)

theorem slice3 {w : World} {base e sz : Nat} {v : Value} {xs : List Value} (h : w.ownsRow base e sz v 3 xs) : ∃ g c, v = .slice (some ⟨g, 0, none⟩) 3 c ∧ base ≤ g := by
  obtain ⟨A, c, rfl⟩ := own_form h
  cases A with
  | none => have := own_nil h rfl; omega
  | some ad =>
    obtain ⟨g, off, sp⟩ := ad
    obtain ⟨rfl, rfl, h3, _⟩ := own_cell h rfl
    exact ⟨g, c, rfl, h3⟩
theorem BgSt.ok {w : World} {B : Nat} {L : Lay} {rv sv : Value} (h : BgSt B w 3 3 L rv sv) : ∃ L', ClOk w B M.begin_ L' ∧ ∀ k, ClS B L' k → B ≤ k := by
  obtain ⟨rA, rc, rfl, hr⟩ := slice3 h.rrow
  obtain ⟨sA, sc, rfl, hs⟩ := slice3 h.srow
  refine ⟨{ L with lv := fun _ => nilS, rA := rA, rc := rc, sA := sA, sc := sc, mA := none, mc := 0 }, ⟨h.blk, rfl, rfl, Nat.zero_le _, own_mono (h.rrow) (Nat.zero_le _), own_mono (h.srow) (Nat.zero_le _), fun j hj => ?_, fun j hj => ?_, ⟨[], rfl, World.ownsRow_nil _ _ _ _, fun p hp => by cases hp⟩, h.sepB, h.sepA⟩, ?_⟩
  · have := h.rep j hj
    rcases lt3 hj with rfl | rfl | rfl <;> exact this
  · rcases lt3 hj with rfl | rfl | rfl <;> exact ⟨World.ownsRow_nil _ _ _ _, fun k hk => by cases hk⟩
  · intro k hk
    rcases hk with rfl | hk | hk | ⟨ad, e, _⟩ | ⟨j, hj, hk | ⟨ad, e, e2⟩⟩
    · exact Nat.le_refl _
    · change k = rA at hk; omega
    · change k = sA at hk; omega
    · cases e
    · change k = L.bs j at hk; have := h.newB j hj; omega
    · change L.As j = some ad at e; have := h.newA j hj ad e; omega

set_option linter.unusedSimpArgs false in
set_option maxRecDepth 10000 in
set_option maxHeartbeats 1600000 in
theorem begin_calls (w : World) : Calls Try.prog 9 #[] w (BeginPost w) := by
  go_enter Try.func9, Try.ntmps9
  go_wp2_with fail
  go_loopw [2] (fun iv wr => ∃ (k : Nat) (L : Lay) (rv sv : Value), iv = .int .i64 k ∧ k ≤ 3 ∧ Below w.heap.size w wr ∧ BgSt w.heap.size wr k k L rv sv) (fun iv _ => 3 - (intOf iv).toNat)
  case atStart =>
    refine ⟨0, ⟨fun _ => 0, fun _ => none, fun _ => 0, fun _ => nilS, 0, 0, 0, 0, none, 0⟩, nilS, nilS, rfl, by omega, (Below.refl _ _).alloc (Nat.le_refl _) _, ⟨heap_alloc_new w _, World.ownsRow_nil _ _ _ _, World.ownsRow_nil _ _ _ _, ?_, ?_, ?_, ?_, ?_⟩⟩
    · intro j hj; omega
    · intro j hj; omega
    · intro j hj; omega
    · intro i j hi; omega
    · intro i j hi; omega
  case round =>
    obtain ⟨k, L, rv, sv, rfl, hk, hbw, hst⟩ := hrel
    by_cases hk3 : k < 3
    · have hk3I : (k : Int) < 3 := by omega
      obtain ⟨rA, rc, rfl⟩ := own_form hst.rrow
      obtain ⟨sA, sc, rfl⟩ := own_form hst.srow
      have c0 := cell_blk hst.blk 0
      simp only [List.getElem?_cons_zero] at c0
      have hBl := lt_blk hst.blk
      have HST := Lib.hid hst
      have HBW := Lib.hid hbw
      have HCF := Lib.hid (free_blk hst.blk 0)
      have hRne : ¬ (Value.slice rA k rc).ownBlock = some w.heap.size := fun e => (own_kind hst.rrow e).ne ⟨_, _, hst.blk⟩ (by decide) rfl
      have hS : ∀ w', Fr (fun q => (Value.slice rA k rc).ownBlock = some q) wr w' → (Fr (fun q => (Value.slice rA k rc).ownBlock = some q) wr w' ∧ w'.cell? ⟨w.heap.size, 0, none⟩ = some (.slice rA k rc)) := fun w' hf => ⟨hf, (World.cell?_of_block (w := wr) (hf.block w.heap.size hBl hRne)).trans c0⟩
      have HSS := Lib.hid hS
      have HRNE := Lib.hid hRne
      clear hst hbw hS c0 hRne
      go_upto_region 5 with fail
      refine wp_region_noPanic ?_
      refine wp_region_last (S := fun w' => Fr (fun q => (Value.slice rA k rc).ownBlock = some q) wr w' ∧ w'.cell? ⟨w.heap.size, 0, none⟩ = some (.slice rA k rc)) (by kernel_rfl) (by kernel_rfl) (last_split _ (by kernel_rfl)) (HSS.out _ (Fr.refl _ _).drew) (fun hHeld => ?_)
      simp only [List.pop_toArray, List.dropLast_cons_cons, List.dropLast_singleton, List.back?_toArray, List.getLast?_cons_cons, List.getLast?_singleton, Option.getD_some]
      refine wpAnyH_take (i := 0) (v := ?_) rfl (by kernel_rfl) (by kernel_rfl) (by kernel_rfl) (fun _ _ _ h => h) (Or.inl ⟨by rfl, ?_⟩) (by assumption) ?_
      rotate_left 1
      · intro w' hSw
        (try dsimp only at hSw)
        go_simp
        (try with_reducible rfl)
      (try simp only [Act.put, List.getElem_toArray, List.getElem_cons_zero, List.getElem_cons_succ, List.setIfInBounds_toArray, List.set_cons_zero, List.set_cons_succ])
      refine wpAnyH_take (i := 1) (v := ?_) rfl (by kernel_rfl) (by kernel_rfl) (by kernel_rfl) (fun _ _ _ h => h) (Or.inl ⟨by rfl, ?_⟩) (by assumption) ?_
      rotate_left 1
      · intro w' hSw
        (try dsimp only at hSw)
        go_simp
        (try with_reducible rfl)
      (try simp only [Act.put, List.getElem_toArray, List.getElem_cons_zero, List.getElem_cons_succ, List.setIfInBounds_toArray, List.set_cons_zero, List.set_cons_succ])
      refine wpAnyH_take (i := 2) (v := ?_) rfl (by kernel_rfl) (by kernel_rfl) (by kernel_rfl) (fun _ _ _ h => h) (Or.inl ⟨by rfl, ?_⟩) (by assumption) ?_
      rotate_left 1
      · intro w' hSw
        (try dsimp only at hSw)
        go_simp
        (try with_reducible rfl)
      (try simp only [Act.put, List.getElem_toArray, List.getElem_cons_zero, List.getElem_cons_succ, List.setIfInBounds_toArray, List.set_cons_zero, List.set_cons_succ])
      refine wpAnyH_take (i := 3) (v := ?_) rfl (by kernel_rfl) (by kernel_rfl) (by kernel_rfl) (fun _ _ _ h => h) (Or.inl ⟨by rfl, ?_⟩) (by assumption) ?_
      rotate_left 1
      · intro w' hSw
        (try dsimp only at hSw)
        go_simp
        (try with_reducible rfl)
      (try simp only [Act.put, List.getElem_toArray, List.getElem_cons_zero, List.getElem_cons_succ, List.setIfInBounds_toArray, List.set_cons_zero, List.set_cons_succ])
      refine wpAnyH_take (i := 4) (v := ?_) rfl (by kernel_rfl) (by kernel_rfl) (by kernel_rfl) (fun _ _ _ h => h) (Or.inl ⟨by rfl, ?_⟩) (by assumption) ?_
      rotate_left 1
      · intro w' hSw
        (try dsimp only at hSw)
        go_simp
        (try with_reducible rfl)
      (try simp only [Act.put, List.getElem_toArray, List.getElem_cons_zero, List.getElem_cons_succ, List.setIfInBounds_toArray, List.set_cons_zero, List.set_cons_succ])
      refine wpAnyH_take (i := 5) (v := ?_) rfl (by kernel_rfl) (by kernel_rfl) (by kernel_rfl) (fun _ _ _ h => h) (Or.inl ⟨by rfl, ?_⟩) (by assumption) ?_
      rotate_left 1
      · intro w' hSw
        (try dsimp only at hSw)
        go_simp
        (try with_reducible rfl)
      (try simp only [Act.put, List.getElem_toArray, List.getElem_cons_zero, List.getElem_cons_succ, List.setIfInBounds_toArray, List.set_cons_zero, List.set_cons_succ])
      refine wpAnyH_take (i := 6) (v := ?_) rfl (by kernel_rfl) (by kernel_rfl) (by kernel_rfl) (fun _ _ _ h => h) (Or.inl ⟨by rfl, ?_⟩) (by assumption) ?_
      rotate_left 1
      · intro w' hSw
        (try dsimp only at hSw)
        go_simp
        (try with_reducible rfl)
      (try simp only [Act.put, List.getElem_toArray, List.getElem_cons_zero, List.getElem_cons_succ, List.setIfInBounds_toArray, List.set_cons_zero, List.set_cons_succ])
      refine wpAnyH_ready (rs := [7]) (by kernel_rfl) (by simp) ?_
      refine AllReadyH.cons rfl (fun K hK => ?_) AllReadyH.nil
      clear hHeld
      go_simp
      go_at_call 21
      refine (new_calls (ok := fun _ => True) (k : Int) ⟨0, -1⟩ [] (.slice none 0 0) ((Sl.of_own (World.ownsRow_nil _ 0 55 2)).mono (fun _ _ _ => trivial))).mono ?_
      rintro e w1 (⟨q1, _⟩ | ⟨r0, b0, A0, cap0, q1, rfl, q2, q3, q4, q5⟩)
      · exact absurd ((new0 hk3).symm.trans q1) (by simp)
      obtain rfl : M.made k st0 = r0 := Option.some.inj ((new0 hk3).symm.trans q1)
      have hb1 : Below wr.heap.size wr w1 := (Below.refl _ wr).drew.trans q5
      have HB1 := Lib.hid hb1
      have HQ2 : Hid (wr.heap.size ≤ b0) := q2
      have HQ3 := Lib.hid q3
      have HQ4 : Hid (∀ ad, A0 = some ad → wr.heap.size ≤ ad.block) := q4
      have hws := hb1.size
      refine hK.out _ _ (HSS.out _ (Fr.of_below hb1)) (fun hHeld2 => ?_)
      clear hK K q1 q2 q3 q4 q5 hb1
      (try simp only [Act.put, List.getElem_toArray, List.getElem_cons_zero, List.getElem_cons_succ, List.setIfInBounds_toArray, List.set_cons_zero, List.set_cons_succ])
      refine wpAnyH_ready (rs := [8]) (by kernel_rfl) (by simp) ?_
      refine AllReadyH.cons rfl (fun K hK => ?_) AllReadyH.nil
      go_simp
      refine hK.out _ _ (HSS.out _ ((Fr.of_below HB1.out).alloc _)) (fun hHeld3 => ?_)
      clear hK K hHeld2
      (try simp only [Act.put, List.getElem_toArray, List.getElem_cons_zero, List.getElem_cons_succ, List.setIfInBounds_toArray, List.set_cons_zero, List.set_cons_succ])
      refine wpAnyH_ready (rs := [9]) (by kernel_rfl) (by simp) ?_
      refine AllReadyH.cons rfl (fun K hK => ?_) AllReadyH.nil
      have hrow1 : (w1.alloc (.cells #[.pointer (some ⟨b0, 0, none⟩)] 46)).ownsRow (w.heap.size + 1) 46 1 (.slice rA k rc) k ((ptrs L).take k) := own_below HST.out.rrow (HB1.out.alloc hws _) (Nat.le_refl _)
      have hsl1 : Sl (w1.alloc (.cells #[.pointer (some ⟨b0, 0, none⟩)] 46)) (w1.heap.size ≤ ·) 1 (.slice (some ⟨w1.heap.size, 0, none⟩) 1 1) 1 [ptrV b0] :=
        ⟨rfl, by omega, _, _, rfl, by omega, by omega, Or.inr ⟨_, _, rfl, Nat.le_refl _, by simp, fun j u h => by rw [Nat.zero_add, World.cell?_alloc_new]; simpa [ptrV] using h⟩⟩
      have hsz1 : (w1.alloc (.cells #[.pointer (some ⟨b0, 0, none⟩)] 46)).heap.size = w1.heap.size + 1 := by simp
      have hBW := HBW.out.size
      refine step_append_sl rfl _ _ 31 (by rfl) (w.heap.size + 1) 46 _ 1 8 Try.underlying31 info46 rfl (by decide) _ k ((ptrs L).take k) (by rfl) hrow1 (w1.heap.size ≤ ·) _ 1 [ptrV b0] (by rfl) hsl1 (fun u hu => by simp only [List.mem_singleton] at hu; subst hu; rfl) (by simp only [maxLen]; omega) (by omega) (by omega) ?_
      intro v1 w2 hown1 hg1 hat1
      obtain ⟨A1, n1, rfl⟩ := own_form hown1
      have hf1 : Fr (fun q => (Value.slice rA k rc).ownBlock = some q) w1 w2 := ((Fr.refl _ w1).alloc _).grown hg1 (fun q hq => .inl hq)
      refine hK.out _ _ (HSS.out _ ((Fr.of_below HB1.out).trans hf1)) (fun hHeld4 => ?_)
      clear hK K hHeld3
      (try simp only [Act.put, List.getElem_toArray, List.getElem_cons_zero, List.getElem_cons_succ, List.setIfInBounds_toArray, List.set_cons_zero, List.set_cons_succ])
      refine wpAnyH_take (i := 10) (v := ?_) rfl (by kernel_rfl) (by kernel_rfl) (by kernel_rfl) (fun _ _ _ h => h) (Or.inl ⟨by rfl, ?_⟩) (by assumption) ?_
      rotate_left 1
      · intro w' hSw
        (try dsimp only at hSw)
        go_simp
        (try with_reducible rfl)
      (try simp only [Act.put, List.getElem_toArray, List.getElem_cons_zero, List.getElem_cons_succ, List.setIfInBounds_toArray, List.set_cons_zero, List.set_cons_succ])
      refine wpAnyH_take (i := 11) (v := ?_) rfl (by kernel_rfl) (by kernel_rfl) (by kernel_rfl) (fun _ _ _ h => h) (Or.inl ⟨by rfl, ?_⟩) (by assumption) ?_
      rotate_left 1
      · intro w' hSw
        (try dsimp only at hSw)
        go_simp
        (try with_reducible rfl)
      (try simp only [Act.put, List.getElem_toArray, List.getElem_cons_zero, List.getElem_cons_succ, List.setIfInBounds_toArray, List.set_cons_zero, List.set_cons_succ])
      refine wpAnyH_done (by kernel_rfl) ?_ _
      unfold LastQ
      have x2 := hHeld4.2
      have xf2 : w2.frozen? ⟨w.heap.size, 0, none⟩ = false := by
        rw [World.frozen?_of_block (w := wr) (((Fr.of_below HB1.out).trans hf1).block w.heap.size hBl HRNE.out)]; exact HCF.out
      go_simp
      refine NoPanic.normal ?_
      have hst2 := HST.out.pushR hk3 HB1.out HQ3.out HQ2.out HQ4.out hf1 hown1
      have hbw2 : Below w.heap.size w (w2.setCell ⟨w.heap.size, 0, none⟩ (.slice A1 (k + 1) n1)) := (HBW.out.trans (HB1.out.mono hBW)).trans (by
        refine ⟨?_, ?_, ?_, ?_, ?_⟩
        · exact hf1.os
        · exact hf1.tape
        · exact hf1.output
        · simpa using hf1.size
        · intro q hq
          rw [other_blk (by show q ≠ w.heap.size; omega)]
          exact hf1.block q (by omega) (fun e => by have := (own_lt HST.out.rrow e).1; omega))
      have HST2 := Lib.hid hst2
      have HBW2 := Lib.hid hbw2
      clear hst2 hbw2 hHeld4 x2 xf2
      go_upto_region 6 with fail
      refine wp_world (fun V => Below w.heap.size w V ∧ BgSt w.heap.size V (k + 1) k { L with bs := M.up L.bs k b0, As := M.up L.As k A0, caps := M.up L.caps k cap0 } (.slice A1 (k + 1) n1) (.slice sA k sc)) ⟨HBW2.out, HST2.out⟩ ?_
      generalize ({ L with bs := M.up L.bs k b0, As := M.up L.As k A0, caps := M.up L.caps k cap0 } : Lay) = L2
      clear HST2 HBW2 HST HBW HB1 HQ2 HQ3 HQ4 hown1 hg1 hat1 hf1 hrow1 hsl1 hsz1 hBW hBl HCF HSS HRNE hws
      rintro V ⟨hbV, hsV⟩
      have c1 := cell_blk hsV.blk 1
      simp only [List.getElem?_cons_zero, List.getElem?_cons_succ] at c1
      have f1 := free_blk hsV.blk 1
      have hBl := lt_blk hsV.blk
      have HSV := Lib.hid hsV
      have HBV := Lib.hid hbV
      have hVs := hbV.size
      have hSne : ¬ (Value.slice sA k sc).ownBlock = some w.heap.size := fun e => (own_kind hsV.srow e).ne ⟨_, _, hsV.blk⟩ (by decide) rfl
      have HSNE := Lib.hid hSne
      have hrow2 : (V.alloc (.cells #[.int .i64 0, .int .i64 (-1), .slice none 0 0, .int .i64 0] 42)).ownsRow (w.heap.size + 1) 42 4 (.slice sA k sc) k (sts0.take (k * 4)) := own_below hsV.srow ((Below.refl _ V).alloc (Nat.le_refl _) _) (Nat.le_refl _)
      have hsl2 : Sl (V.alloc (.cells #[.int .i64 0, .int .i64 (-1), .slice none 0 0, .int .i64 0] 42)) (V.heap.size ≤ ·) 4 (.slice (some ⟨V.heap.size, 0, none⟩) 1 1) 1 (stC st0 nilS) :=
        ⟨rfl, by omega, _, _, rfl, by omega, by omega, Or.inr ⟨_, _, rfl, Nat.le_refl _, by simp, fun j u h => by rw [Nat.zero_add, World.cell?_alloc_new]; simpa [stC, st0, nilS] using h⟩⟩
      have HROW2 := Lib.hid hrow2
      have HSL2 := Lib.hid hsl2
      clear hsV hbV hSne hrow2 hsl2
      go_wp2_with (at_builtin; refine wpList_append_sl _ rfl _ _ 32 rfl (w.heap.size + 1) 42 _ 4 48 Try.underlying32 info42 rfl (by decide) _ k (sts0.take (k * 4)) rfl HROW2.out (V.heap.size ≤ ·) _ 1 (stC st0 nilS) rfl HSL2.out ?_ ?_ ?_ ?_ ?_; rotate_left 4; intro v' w3 hown hg hat; obtain ⟨A3, n3, rfl⟩ := own_form hown; have hf3 : Fr (fun q => (Value.slice sA k sc).ownBlock = some q) V w3 := ((Fr.refl _ V).alloc _).grown hg (fun q hq => .inl hq); have x1 := (World.cell?_of_block (w := V) (a := ⟨w.heap.size, 1, none⟩) (hf3.block w.heap.size hBl HSNE.out)).trans c1; have xf1 := (World.frozen?_of_block (w := V) (a := ⟨w.heap.size, 1, none⟩) (hf3.block w.heap.size hBl HSNE.out)).trans f1)
      · go_roundw
        case rel =>
          refine ⟨k + 1, L2, _, _, by go_num, by omega, ?_, HSV.out.pushS hk3 hf3 hown⟩
          refine HBV.out.trans ⟨hf3.os, hf3.tape, hf3.output, by simpa using hf3.size, fun q hq => ?_⟩
          rw [other_blk (by show q ≠ w.heap.size; omega)]
          exact hf3.block q (by omega) (fun e => by have := (own_lt HSV.out.srow e).1; omega)
        case measure => simp [intOf]; omega
      · intro u hu
        simp [stC, nilS] at hu
        rcases hu with rfl | rfl | rfl | rfl <;> rfl
      · simp only [maxLen]; omega
      · omega
      · show w.heap.size + 1 ≤ (V.alloc _).heap.size
        simp; omega
    · obtain rfl : k = 3 := by omega
      obtain ⟨L', hok, hcl⟩ := hst.ok
      obtain ⟨c0, c1, c2⟩ := hok.cells
      have r0 := hok.rcell (i := 0) (by omega)
      have r1 := hok.rcell (i := 1) (by omega)
      have r2 := hok.rcell (i := 2) (by omega)
      unfold ptrV at r0 r1 r2
      have HOK := Lib.hid hok
      have HCL := Lib.hid hcl
      have HBW := Lib.hid hbw
      clear hst hok hcl hbw
      go_wp2_with fail
      go_ret
      exact ⟨L', rfl, HOK.out, HCL.out, HBW.out⟩
end Go.Proofs.Ytodmihpmbecncaa
