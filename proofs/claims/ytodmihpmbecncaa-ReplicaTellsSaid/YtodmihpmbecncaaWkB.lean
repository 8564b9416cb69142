/-
  Walks of package replica, second part: others (with slices.DeleteFunc and IndexFunc under it), answer, entries, all. Each computes what the model says.
-/
import Derived.Test.YtodmihpmbecncaaWkA
namespace Go.Proofs.Ytodmihpmbecncaa
open Go.RowKit

theorem others1_calls (i id : Int) (c b : Nat) (w : World) (h1 : w.cell? ⟨c, 0, none⟩ = some (.pointer (some ⟨b, 0, none⟩))) (h2 : w.cell? ⟨b, 0, none⟩ = some (.int .i64 id)) :
    Calls Try.prog 57 #[.int .i64 i, .pointer (some ⟨c, 0, none⟩)] w fun e w' => e = .returned (.bool (i == id)) ∧ w = w' := by
  go_enter Try.func57, Try.ntmps57
  go_wp2
  go_ret
  exact ⟨retb rfl, rfl⟩

theorem indexFunc_calls (id g c b : Nat) (w : World) (hid : id < 3) (h1 : w.cell? ⟨c, 0, none⟩ = some (.pointer (some ⟨b, 0, none⟩))) (h2 : w.cell? ⟨b, 0, none⟩ = some (.int .i64 id))
    (hg : ∀ k : Nat, k < 3 → w.cell? ⟨g, k, none⟩ = some (.int .i64 k)) :
    Calls Try.prog 61 #[.slice (some ⟨g, 0, none⟩) 3 3, .func (.func 57) #[] #[.pointer (some ⟨c, 0, none⟩)]] w fun e w' => e = .returned (.int .i64 id) ∧ w = w' := by
  have H := Lib.hid hg
  clear hg
  go_enter Try.func61, Try.ntmps61
  go_wp2
  go_loop [8] (fun i => ∃ k : Nat, k ≤ id ∧ i = .int .i64 k) (fun i => 3 - (intOf i).toNat)
  case atStart => exact ⟨0, Nat.zero_le _, rfl⟩
  case round =>
    obtain ⟨k, hk, rfl⟩ := hrel
    have hk3 : k < 3 := by omega
    have hc := H.out k hk3
    by_cases hlt : k = id
    · subst hlt
      have ht : ((k : Int) == (k : Int)) = true := by simp
      go_wp2_with (go_at_call 57; refine (others1_calls _ _ _ _ _ h1 h2).mono ?_; rintro e w' ⟨rfl, rfl⟩)
      go_ret
      exact ⟨rfl, rfl⟩
    · have ht : ((k : Int) == (id : Int)) = false := by simp; omega
      go_wp2_with (go_at_call 57; refine (others1_calls _ _ _ _ _ h1 h2).mono ?_; rintro e w' ⟨rfl, rfl⟩)
      go_round
      case rel => exact ⟨k + 1, by omega, by go_num⟩
      case measure => simp [intOf]; omega

set_option maxHeartbeats 400000 in
theorem deleteFunc_calls (id g c b : Nat) (w : World) (hid : id < 3) (hgc : c ≠ g) (hgb : b ≠ g) (h1 : w.cell? ⟨c, 0, none⟩ = some (.pointer (some ⟨b, 0, none⟩))) (h2 : w.cell? ⟨b, 0, none⟩ = some (.int .i64 id))
    (hg : ∀ k : Nat, k < 3 → w.cell? ⟨g, k, none⟩ = some (.int .i64 k)) (hf : ∀ k, w.frozen? ⟨g, k, none⟩ = false) (hK : Kind w g 3) :
    Calls Try.prog 56 #[.slice (some ⟨g, 0, none⟩) 3 3, .func (.func 57) #[] #[.pointer (some ⟨c, 0, none⟩)]] w fun e w' => e = .returned (.slice (some ⟨g, 0, none⟩) 2 3) ∧ Fr (· = g) w w' ∧ Kind w' g 3 ∧
      (∀ k : Nat, k < 2 → w'.cell? ⟨g, k, none⟩ = some (.int .i64 (if id ≤ k then k + 1 else k))) := by
  have H := Lib.hid hg
  have HF := Lib.hid hf
  clear hf
  have hm1 : ((id : Int) == -1) = false := by rw [beq_eq_false_iff_ne]; omega
  go_enter Try.func56, Try.ntmps56
  go_wp2_with (go_at_call 61; refine (indexFunc_calls id g c b _ hid h1 h2 H.out).mono ?_; rintro e w' ⟨rfl, rfl⟩)
  clear hg
  go_loopw [5, 6] (fun i j wr => ∃ k : Nat, id < k ∧ k ≤ 3 ∧ j = .int .i64 k ∧ i = .int .i64 (k - 1 : Nat) ∧ Fr (· = g) w wr ∧ (∀ p : Nat, p < 3 → wr.cell? ⟨g, p, none⟩ = some (.int .i64 (if id ≤ p ∧ p < k - 1 then p + 1 else p))) ∧ (∀ p, wr.frozen? ⟨g, p, none⟩ = false) ∧ Kind wr g 3) (fun _ j _ => 3 - (intOf j).toNat)
  case atStart => exact ⟨id + 1, by omega, by omega, by go_num, by go_num, Fr.refl _ _, fun p hp => by rw [if_neg (by omega)]; exact H.out p hp, HF.out, hK⟩
  case round =>
    obtain ⟨k, hk0, hk3, rfl, rfl, hfr, hc, hfz, hKr⟩ := hrel
    have h1r : wr.cell? ⟨c, 0, none⟩ = some (.pointer (some ⟨b, 0, none⟩)) := (World.cell?_of_block (w := w) (hfr.block c (World.block_lt_of_cell? w _ h1) hgc)).trans h1
    have h2r : wr.cell? ⟨b, 0, none⟩ = some (.int .i64 id) := (World.cell?_of_block (w := w) (hfr.block b (World.block_lt_of_cell? w _ h2) hgb)).trans h2
    have HC := Lib.hid hc
    have HZ := Lib.hid hfz
    by_cases hlt : k < 3
    · have ck := hc k hlt
      rw [if_neg (by omega)] at ck
      have ck1 := hc (k - 1) (by omega)
      rw [if_neg (by omega)] at ck1
      have f1 := hfz (k - 1)
      have ht : ((k : Int) == (id : Int)) = false := by simp; omega
      clear hc hfz
      go_wp2_with (go_at_call 57; refine (others1_calls _ _ _ _ _ h1r h2r).mono ?_; rintro e w' ⟨rfl, rfl⟩)
      go_roundw
      case rel =>
        refine ⟨k + 1, by omega, by omega, by go_num, by go_num, hfr.setCell (.inl rfl) _, fun p hp => ?_, fun p => by rw [World.frozen?_setCell]; exact HZ.out p, hKr.setCell _ _⟩
        by_cases hpk : p = k - 1
        · subst hpk
          rw [World.cell?_setCell_same _ _ _ ck1, if_pos (by omega)]
          first | (congr 2; done) | (congr 2; omega)
        · rw [World.cell?_setCell_other _ _ _ _ (addr_ne (by omega)), HC.out p hp]
          congr 2
          by_cases h : id ≤ p ∧ p < k - 1
          · rw [if_pos h, if_pos (by omega)]
          · rw [if_neg h, if_neg (by omega)]
      case measure => simp [intOf] <;> omega
    · obtain rfl : k = 3 := by omega
      have cA := hc 0 (by omega)
      have cB := hc 1 (by omega)
      have c2 := hc 2 (by omega)
      have f2 := hfz 2
      rw [if_neg (by omega)] at c2
      have hcl : (Builtin.clear_ #[65] 0 #[.slice (some ⟨g, 2, none⟩) 1 1]).run Try.prog wr = .ok (.tuple #[]) (wr.setCell ⟨g, 2, none⟩ (.int .i64 0)) := by
        have k1 : ∀ j, j < 1 → (wr.cell? ⟨g, 2 + j, none⟩).isSome = true := by
          intro j hj
          obtain rfl : j = 0 := by omega
          rw [Nat.add_zero, c2]
          rfl
        have k2 : ∀ j, j < 1 → wr.frozen? ⟨g, 2 + j, none⟩ = false := by
          intro j hj
          obtain rfl : j = 0 := by omega
          exact f2
        have := Lib.run_clear_slice (P := Try.prog) wr 65 3 0 (.int .i64 0) Try.underlying65 (fun w => by kernel_rfl) rfl rfl g 2 1 1 (by omega) k1 k2
        rw [this]
        simp [World.setCells]
      clear hc hfz
      go_wp2
      go_ret
      refine ⟨rfl, hfr.setCell (.inl rfl) _, hKr.setCell _ _, fun k hk => ?_⟩
      rw [World.cell?_setCell_other _ _ _ _ (addr_ne (by omega)), HC.out k (by omega)]
      congr 2
      by_cases h : id ≤ k
      · rw [if_pos ⟨h, by omega⟩, if_pos h]
      · rw [if_neg (fun h' => h h'.1), if_neg h]

theorem others_id (id : Nat) (hid : id < 3) (k : Nat) (hk : k < 2) : (M.others id).getD k 0 = if id ≤ k then (k : Int) + 1 else k := by
  have h1 : id = 0 ∨ id = 1 ∨ id = 2 := by omega
  have h2 : k = 0 ∨ k = 1 := by omega
  rcases h1 with rfl | rfl | rfl <;> rcases h2 with rfl | rfl <;> rfl

set_option maxHeartbeats 400000 in
theorem others_calls (id b : Nat) (w : World) (hid : id < 3) (hb : b < w.heap.size) (h2 : w.cell? ⟨b, 0, none⟩ = some (.int .i64 id)) :
    Calls Try.prog 34 #[.pointer (some ⟨b, 0, none⟩)] w fun e w' => ∃ g, e = .returned (.slice (some ⟨g, 0, none⟩) 2 3) ∧ Below w.heap.size w w' ∧ w.heap.size ≤ g ∧
      g < w'.heap.size ∧ Kind w' g 3 ∧ ∀ k : Nat, k < 2 → w'.cell? ⟨g, k, none⟩ = some (.int .i64 ((M.others id).getD k 0)) := by
  go_enter Try.func34, Try.ntmps34
  go_wp2_with (go_at_call 56; refine (deleteFunc_calls id (w.heap.size + 1) w.heap.size b _ hid (by omega) (by omega) ?_ ?_ ?_ ?_ ?_).mono ?_; rotate_left 5; rintro e w' ⟨rfl, hfr, hKg, hc⟩)
  · go_ret
    refine ⟨_, rfl, ((Below.refl _ _).alloc (Nat.le_refl _) _ |>.alloc (by simp) _).trans ⟨hfr.os, hfr.tape, hfr.output, hfr.size, fun k hk => hfr.block k (by simp; omega) (by omega)⟩, by omega, Nat.lt_of_lt_of_le (by simp) hfr.size, hKg, fun k hk => ?_⟩
    rw [hc k hk, others_id id hid k hk]
  · rw [World.cell?_alloc_past _ _ _ (by simp), World.cell?_alloc_new]; rfl
  · rw [World.cell?_alloc_past _ _ _ (by simp; omega), World.cell?_alloc_past _ _ _ hb]; exact h2
  · intro k hk
    rw [World.cell?_alloc_at _ _ _ _ (by simp)]
    obtain rfl | rfl | rfl : k = 0 ∨ k = 1 ∨ k = 2 := by omega
    all_goals rfl
  · exact fun k => World.frozen?_alloc_at _ _ _ _ (by simp)
  · exact ⟨_, _, heap_alloc2_new _ _ _⟩

/-- A box of one value of nine cells, read as a slice of one message. -/
theorem sl_one_msg (w : World) (m : Msg) (v : Value) : Sl (w.alloc (.cells (msgCells m v).toArray 37)) (w.heap.size ≤ ·) 9 (.slice (some ⟨w.heap.size, 0, none⟩) 1 1) 1 (msgsCells [(m, v)]) :=
  ⟨by rw [msgsCells_length]; rfl, by omega, _, _, rfl, by omega, by omega, Or.inr ⟨_, _, rfl, Nat.le_refl _, by simp, fun j u h => by rw [Nat.zero_add, World.cell?_alloc_new]; simpa [msgsCells] using h⟩⟩
theorem own_one_msg (w : World) (m : Msg) (v : Value) : (w.alloc (.cells (msgCells m v).toArray 37)).ownsRow w.heap.size 37 9 (.slice (some ⟨w.heap.size, 0, none⟩) 1 1) 1 (msgsCells [(m, v)]) :=
  ⟨by rw [msgsCells_length]; rfl, .inr ⟨w.heap.size, 1, _, rfl, Nat.le_refl _, heap_alloc_new w _, Nat.le_refl _, by simp [maxLen], by simp [msgCells], by simp [msgsCells, msgCells]⟩⟩

theorem answer_calls (m : Msg) (v : Value) (w : World) (base : Nat) (hb : base ≤ w.heap.size) (hv : w.ownsRow base 55 2 v m.recs.length (recsCells m.recs)) :
    Calls Try.prog 58 #[msgVal m v] w fun e w' => ∃ rv sv, e = .returned (outVal (M.answer m) rv sv) ∧ OutOk w' base (M.answer m) rv sv ∧ Below w.heap.size w w' := by
  unfold msgVal msgCells
  go_enter Try.func58, Try.ntmps58
  go_wp2
  refine bodyPost_ret (v := outVal (M.answer m) (.slice none 0 0) (.slice (some ⟨w.heap.size + 1 + 1, 0, none⟩) 1 1)) (by simp [results, Try.results58, go_sem, outVal, M.answer, M.noOut]) rfl ⟨_, _, rfl, ⟨World.ownsRow_nil _ _ _ _, [(m, v)], rfl, ?_, ?_⟩, ?_⟩
  · have := own_one_msg ((w.alloc (.cells (msgCells m v).toArray 37)).alloc (.cells #[.bool false, .int .i64 0, .int .i64 0, .int .i64 0, .slice none 0 0, .slice (some ⟨w.heap.size + 1 + 1, 0, none⟩) 1 1] 45)) m v
    exact own_mono (by simpa [msgCells] using this) (by omega)
  · intro p hp
    obtain rfl : p = (m, v) := by simpa using hp
    exact own_below hv ((((Below.refl w.heap.size w).alloc (Nat.le_refl _) _).alloc (by simp) _).alloc (by simp; omega) _) (Nat.le_refl _)
  · exact ((((Below.refl w.heap.size w).alloc (Nat.le_refl _) _).alloc (by simp) _).alloc (by simp; omega) _)

end Go.Proofs.Ytodmihpmbecncaa
