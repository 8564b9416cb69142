/-
  Walks of package replica, first part: between, sound, Clone, term, message, and the readers Role, Commit, Hard, Log. Each computes what the model says.
-/
import Derived.Test.YtodmihpmbecncaaApp
namespace Go.Proofs.Ytodmihpmbecncaa
open Go.RowKit

theorem between_any (n a b : Int) (w : World) :
    Calls Try.prog 38 #[.int .i64 n, .int .i64 a, .int .i64 b] w fun e w' => e = .returned (.bool (M.between n a b)) ∧ w = w' := by
  by_cases h1 : a ≤ n
  · have h1' : decide (a ≤ n) = true := by simpa using h1
    go_enter Try.func38, Try.ntmps38
    go_wp2
    go_ret
    exact ⟨retb (by simp [M.between, h1]), rfl⟩
  · have h1' : decide (a ≤ n) = false := by simpa using h1
    go_enter Try.func38, Try.ntmps38
    go_wp2
    go_ret
    exact ⟨retb (by unfold M.between; rw [h1']; rfl), rfl⟩

theorem sound_at {xs : List Rec} {k : Nat} (hlt : k < xs.length) {t most : Int} : M.sound (xs.drop k) t most = if xs[k].term < t ∨ most < xs[k].term ∨ 2000 < xs[k].data.size then false else M.sound (xs.drop (k + 1)) xs[k].term most := by
  rw [List.drop_eq_getElem_cons hlt]; rfl

theorem recs_get {w : World} {b off : Nat} {xs : List Rec} (h : ∀ j u, (recsCells xs)[j]? = some u → w.cell? ⟨b, off + j, none⟩ = some u) (i : Nat) (hi : i < xs.length) :
   w.cell? ⟨b, off + i * 2, none⟩ = some (.int .i64 xs[i].term) ∧ w.cell? ⟨b, off + i * 2 + 1, none⟩ = some (.string xs[i].data) := by
  obtain ⟨a, b⟩ := recsCells_at xs i hi
  exact ⟨h _ _ a, by rw [Nat.add_assoc]; exact h _ _ b⟩

set_option maxHeartbeats 400000 in
theorem sound_some (b off cap : Nat) (xs : List Rec) (least most : Int) (w : World) (hb : b < w.heap.size) (hn : xs.length ≤ 9223372036854775807)
    (h : ∀ j u, (recsCells xs)[j]? = some u → w.cell? ⟨b, off + j, none⟩ = some u) :
    Calls Try.prog 39 #[.slice (some ⟨b, off, none⟩) xs.length cap, .int .i64 least, .int .i64 most] w fun e w' => e = .returned (.bool (M.sound xs least most)) ∧ Below w.heap.size w w' := by
  have H := Lib.hid h
  clear h
  go_enter Try.func39, Try.ntmps39
  go_wp2
  go_loopw [1, 11] (fun l i wr => ∃ (k : Nat) (t : Int), k ≤ xs.length ∧ i = .int .i64 k ∧ l = .int .i64 t ∧ M.sound (xs.drop k) t most = M.sound xs least most ∧ Below w.heap.size w wr) (fun _ i _ => xs.length - (intOf i).toNat)
  case atStart => exact ⟨0, _, Nat.zero_le _, rfl, rfl, rfl, Below.refl _ _⟩
  case round =>
    obtain ⟨k, t, hk, rfl, rfl, hs, hb1⟩ := hrel
    have hbw : b < wr.heap.size := Nat.lt_of_lt_of_le hb hb1.size
    by_cases hlt : k < xs.length
    · obtain ⟨g0, g1⟩ := recs_get H.out k hlt
      have c0 := (hb1.cell (p := ⟨b, off + k * 2, none⟩) hb).trans g0
      have c1 := (hb1.cell (p := ⟨b, off + k * 2 + 1, none⟩) hb).trans g1
      clear g0 g1
      have HS := Lib.hid hs
      clear hs
      go_wp2
      all_goals first
        | (go_ret; exact ⟨retb (by rw [← HS.out, sound_at hlt, if_pos (by omega)]), (by first | assumption | exact Below.refl _ _ | exact (hb1.alloc (Nat.le_trans (Nat.le_refl _) hb1.size) _))⟩)
        | (go_roundw
           case rel => exact ⟨k + 1, _, by omega, by go_num, rfl, by rw [← HS.out, sound_at hlt, if_neg (by omega)], (by first | assumption | exact Below.refl _ _ | exact (hb1.alloc (Nat.le_trans (Nat.le_refl _) hb1.size) _))⟩
           case measure => simp [intOf]; omega)
    · have HS := Lib.hid hs
      clear hs
      go_wp2
      go_ret
      exact ⟨retb (by rw [← HS.out, List.drop_of_length_le (by omega)]; rfl), (by first | assumption | exact Below.refl _ _ | exact (hb1.alloc (Nat.le_trans (Nat.le_refl _) hb1.size) _))⟩

theorem sound_none (cap : Nat) (least most : Int) (w : World) (A : Option Addr) :
    Calls Try.prog 39 #[.slice A 0 cap, .int .i64 least, .int .i64 most] w fun e w' => e = .returned (.bool true) ∧ Below w.heap.size w w' := by
  go_enter Try.func39, Try.ntmps39
  go_wp2
  refine wp_loop_rounds 1 ?_
  rw [rounds_succ]
  go_wp2
  go_ret
  exact ⟨retb rfl, Below.refl _ _⟩

/-- sound, over any slice of entries. -/
theorem sound_calls {ok : Nat → Prop} (v : Value) (xs : List Rec) (least most : Int) (w : World) (hs : Sl w ok 2 v xs.length (recsCells xs)) :
    Calls Try.prog 39 #[v, .int .i64 least, .int .i64 most] w fun e w' => e = .returned (.bool (M.sound xs least most)) ∧ Below w.heap.size w w' := by
  obtain ⟨_, hn, A, cap, rfl, _, _, h | ⟨b, off, rfl, _, hb, h⟩⟩ := hs
  · obtain rfl := List.eq_nil_of_length_eq_zero h
    exact sound_none cap least most w A
  · exact sound_some b off cap xs least most w hb hn h

theorem clone_nil (cap : Nat) (w : World) :
    Calls Try.prog 37 #[.slice none 0 cap] w fun e w' => e = .returned (.slice none 0 0) ∧ Below w.heap.size w w' := by
  have he : ∀ w : World, (binOp .eql 35 (.slice none 0 cap) (.slice none 0 0)).run Try.prog w = .ok (.bool true) w := fun w => Lib.run_eql_slice_nil w _ _ _ _ _ _ _ Try.underlying35
  go_enter Try.func37, Try.ntmps37
  go_wp2
  go_ret
  exact ⟨rfl, Below.refl _ _⟩

set_option maxHeartbeats 400000 in
theorem clone_some {ok : Nat → Prop} (ad : Addr) (n cap : Nat) (cs : List Value) (w : World) (hs : Sl w ok 2 (.slice (some ad) n cap) n cs) (h1 : ∀ u ∈ cs, u.oneCell' = true) (hn : n ≤ 1000000) :
    Calls Try.prog 37 #[.slice (some ad) n cap] w fun e w' => ∃ v, e = .returned v ∧ w'.ownsRow w.heap.size 55 2 v n cs ∧ Below w.heap.size w w' := by
  have he : ∀ w : World, (binOp .eql 35 (.slice (some ad) n cap) (.slice none 0 0)).run Try.prog w = .ok (.bool false) w := fun w => Lib.run_eql_slice_nil w _ _ _ _ _ _ _ Try.underlying35
  have HS := Lib.hid (hs.below (w' := w.alloc (.cells #[] 55)) ((Below.refl _ _).alloc (Nat.le_refl _) _) (Nat.le_refl _))
  clear hs
  go_enter Try.func37, Try.ntmps37
  go_wp2_with (at_builtin; refine wpList_append_sl _ rfl _ _ 35 rfl w.heap.size 55 _ 2 24 Try.underlying35 info55 rfl (by decide) _ 0 [] rfl (own_new w 55 2) ok _ n cs rfl HS.out h1 ?_ ?_ ?_ ?_; rotate_left 3; intro v' w1 hown hg hat; clear HS he)
  · have hg : (w.alloc (.cells #[] 55)).grownBy w1 (some w.heap.size) := hg
    rw [Nat.zero_add, List.nil_append] at hown
    go_ret
    exact ⟨_, rfl, hown, ((Below.refl _ _).alloc (Nat.le_refl _) _).grown hg (by simp) (fun k hk => by cases hk; exact Nat.le_refl _)⟩
  · simp only [maxLen]; omega
  · omega
  · simp

/-- slices.Clone over any slice of entries. -/
theorem clone_calls {ok : Nat → Prop} (v : Value) (xs : List Rec) (w : World) (hs : Sl w ok 2 v xs.length (recsCells xs)) (hn : xs.length ≤ 1000000) :
    Calls Try.prog 37 #[v] w fun e w' => ∃ v', e = .returned v' ∧ w'.ownsRow w.heap.size 55 2 v' xs.length (recsCells xs) ∧ Below w.heap.size w w' := by
  obtain ⟨h1, h2, A, cap, rfl, h4⟩ := hs
  cases A with
  | none =>
    have h0 : xs.length = 0 := by
      rcases h4.2.2 with h | ⟨b, off, hA, _⟩
      · exact h
      · cases hA
    obtain rfl := List.eq_nil_of_length_eq_zero h0
    refine (clone_nil cap w).mono ?_
    rintro e w' ⟨rfl, hb⟩
    exact ⟨_, rfl, World.ownsRow_nil _ _ _ _, hb⟩
  | some ad => exact clone_some ad xs.length cap _ w ⟨h1, h2, some ad, cap, rfl, h4⟩ (recsCells_one xs) hn

/-! ### The readers of a replica -/
section
variable {w : World} {b : Nat} {r : Rep} {A : Option Addr} {cap : Nat}

theorem role_calls (h : RepOk w b r A cap) : Calls Try.prog 15 #[.pointer (some ⟨b, 0, none⟩)] w fun e w' => e = .returned (.int .i64 r.role) ∧ w = w' := by
  obtain ⟨_, _, _, _, c4, _⟩ := h.cells
  go_enter Try.func15, Try.ntmps15
  go_wp2
  go_ret
  exact ⟨rfl, rfl⟩

theorem commit_calls (h : RepOk w b r A cap) : Calls Try.prog 17 #[.pointer (some ⟨b, 0, none⟩)] w fun e w' => e = .returned (.int .i64 r.commit) ∧ w = w' := by
  obtain ⟨_, _, _, _, _, c5⟩ := h.cells
  go_enter Try.func17, Try.ntmps17
  go_wp2
  go_ret
  exact ⟨rfl, rfl⟩

theorem hard_calls (h : RepOk w b r A cap) : Calls Try.prog 28 #[.pointer (some ⟨b, 0, none⟩)] w fun e w' => e = .returned (.agg #[.int .i64 r.hard.term, .int .i64 r.hard.vote]) ∧ Below w.heap.size w w' := by
  obtain ⟨_, c1, c2, _⟩ := h.cells
  have hb := h.lt
  go_enter Try.func28, Try.ntmps28
  go_wp2
  refine bodyPost_ret (v := .agg #[.int .i64 r.hard.term, .int .i64 r.hard.vote]) (by simp [results, Try.results28, go_sem]) rfl ⟨rfl, (Below.refl _ _).alloc (Nat.le_refl _) _⟩

theorem log_calls (h : RepOk w b r A cap) : Calls Try.prog 19 #[.pointer (some ⟨b, 0, none⟩)] w fun e w' => ∃ v, e = .returned v ∧ w'.ownsRow w.heap.size 55 2 v r.log.length (recsCells r.log) ∧ Below w.heap.size w w' := by
  obtain ⟨_, _, _, c3, _⟩ := h.cells
  have hl := h.wf.len
  have HS := Lib.hid (Sl.of_own h.own)
  go_enter Try.func19, Try.ntmps19
  go_wp2_with (go_at_call 37; refine (clone_calls _ r.log _ HS.out (by omega)).mono ?_; rintro e w' ⟨v, rfl, h1, h2⟩)
  go_ret
  exact ⟨_, rfl, h1, h2⟩

theorem tm_at {l : List Rec} {n : Nat} (h0 : 0 < n) (hn : n ≤ l.length) : M.tm l n = (l[n - 1]'(by omega)).term := by
  unfold M.tm
  rw [if_neg (by omega), show ((n : Int) - 1).toNat = n - 1 from by omega]
  simp [List.getD_eq_getElem?_getD, List.getElem?_eq_getElem (show n - 1 < l.length by omega)]

theorem term_calls (h : RepOk w b r A cap) (n : Int) (h0 : 0 ≤ n) (hn : n ≤ r.log.length) :
    Calls Try.prog 36 #[.pointer (some ⟨b, 0, none⟩), .int .i64 n] w fun e w' => e = .returned (.int .i64 (M.tm r.log n)) ∧ w = w' := by
  obtain ⟨_, _, _, c3, _⟩ := h.cells
  obtain ⟨n, rfl⟩ := Int.eq_ofNat_of_zero_le h0
  by_cases hz : n = 0
  · subst hz
    go_enter Try.func36, Try.ntmps36
    go_wp2
    go_ret
    exact ⟨rfl, rfl⟩
  · have h1 : ((n : Int) == 0) = false := by simp; omega
    have hlen := h.wf.len
    have hpos : n - 1 < r.log.length := by omega
    cases A with
    | none => have := (own_nil h.own rfl).1; omega
    | some ad =>
      obtain ⟨g, off, sp⟩ := ad
      obtain ⟨rfl, rfl, _, hg, hc⟩ := own_cell h.own rfl
      have g0 := hc _ _ (recsCells_at r.log (n - 1) hpos).1
      have HT := Lib.hid (tm_at (l := r.log) (n := n) (by omega) (by omega))
      clear hc
      go_enter Try.func36, Try.ntmps36
      go_wp2
      go_ret
      exact ⟨reti HT.out.symm, rfl⟩

theorem message_calls (h : RepOk w b r A cap) (k t : Int) :
    Calls Try.prog 35 #[.pointer (some ⟨b, 0, none⟩), .int .i64 k, .int .i64 t] w fun e w' => e = .returned (.agg #[.int .i64 k, .int .i64 r.id, .int .i64 t, .int .i64 r.hard.term, .int .i64 0, .int .i64 0, .int .i64 0, .bool false, .slice none 0 0]) ∧ Below w.heap.size w w' := by
  obtain ⟨c0, c1, _⟩ := h.cells
  have hb := h.lt
  go_enter Try.func35, Try.ntmps35
  go_wp2
  go_region
  all_goals go_wp2
  refine bodyPost_ret (v := .agg #[.int .i64 k, .int .i64 r.id, .int .i64 t, .int .i64 r.hard.term, .int .i64 0, .int .i64 0, .int .i64 0, .bool false, .slice none 0 0]) (by simp [results, Try.results35, go_sem]) rfl ⟨rfl, ((Below.refl _ _).alloc (Nat.le_refl _) _).drew⟩
end
end Go.Proofs.Ytodmihpmbecncaa
