/-
  The replicas' protocol goes on, part 10: bounds of terms and logs. No condition; no program in it.
-/
import Derived.Test.YtodmihpmbecncaaGi
namespace Go.Proofs.Ytodmihpmbecncaa
namespace M

/-- Term and log of a replica are bounded; a leader sends what is not matched. -/
structure RB (c : Int) (r : Rep) : Prop where
  term : r.hard.term ≤ c
  log : r.log.length ≤ c
  nm : r.role = 2 → ∀ j, j < 3 → r.mtch.getD j 0 + 1 ≤ r.next.getD j 0
structure MB (c : Int) (m : Msg) : Prop where
  term : m.term ≤ c
  recs : m.kind = 2 → m.index + m.recs.length ≤ c
theorem RB.mono {c c' : Int} {r : Rep} (h : RB c r) (hc : c ≤ c') : RB c' r := ⟨Int.le_trans h.term hc, Int.le_trans h.log hc, h.nm⟩
theorem MB.mono {c c' : Int} {m : Msg} (h : MB c m) (hc : c ≤ c') : MB c' m := ⟨Int.le_trans h.term hc, fun e => Int.le_trans (h.recs e) hc⟩
theorem entries_mb {c : Int} {r : Rep} (h : RB c r) (W : WF r) (hr : r.role = 2) (to : Int) (ht : 0 ≤ to ∧ to < 3) : MB c (entries r to) := by
  refine ⟨h.term, fun _ => ?_⟩
  have hn := W.nexts hr to.toNat (by omega)
  have hl := h.log
  show (r.next.getD to.toNat 0 - 1) + (((r.log.drop (r.next.getD to.toNat 0 - 1).toNat).take 8).length : Int) ≤ c
  rw [List.length_take, List.length_drop]
  omega
theorem all_mb {c : Int} {r : Rep} (h : RB c r) (W : WF r) (hr : r.role = 2) : ∀ m ∈ all r, MB c m := by
  intro m hm
  unfold all at hm
  obtain ⟨j, hj, rfl⟩ := List.mem_map.1 hm
  have h0 := W.id0
  have h2 := W.id2
  have : r.id = ((r.id.toNat : Nat) : Int) := by omega
  rw [this] at hj
  exact entries_mb h W hr j (others_range r.id.toNat (by omega) j hj)
theorem answer_mb {c : Int} {m : Msg} (h : MB c m) : ∀ y ∈ (answer m).send, MB c y := fun y hy => by
  simp only [answer, List.mem_singleton] at hy
  subst hy; exact h
theorem none_mb {c : Int} : ∀ y ∈ noOut.send, MB c y := fun y hy => by cases hy
theorem message_mb {c : Int} {r : Rep} (h : RB c r) (k to : Int) (hk : k ≠ 2) : MB c (message r k to) := ⟨h.term, fun e => absurd e hk⟩

theorem bump_rb {c : Int} {r : Rep} {m : Msg} (h : RB c r) (hm : MB c m) : RB c (bump r m) := by
  unfold bump
  split
  · exact ⟨hm.term, h.log, fun (e : (0 : Int) = 2) => absurd e (by decide)⟩
  · exact h
theorem deed_rb {c : Int} {r : Rep} {m : Msg} (h : RB c r) (hm : MB c m) (W : WF r) (hr : right r m = true) (hT : m.term ≤ r.hard.term) : RB c (deed r m).1 ∧ ∀ y ∈ (deed r m).2.send, MB c y := by
  have W' := deed_wf W hr hT
  obtain ⟨⟨hk, hto, hfr, hfr3, htm, hix⟩, hcm, hlen, hso⟩ := right_all hr
  unfold deed at W' ⊢
  split
  · rw [if_pos ‹_›] at W'
    unfold vote
    dsimp only
    split
    · exact ⟨⟨h.term, h.log, h.nm⟩, answer_mb ⟨h.term, fun (e : (1 : Int) = 2) => absurd e (by decide)⟩⟩
    · exact ⟨h, answer_mb (message_mb h 1 _ (by decide))⟩
  rename_i k0
  rw [if_neg k0] at W'
  split
  · rw [if_pos ‹_›] at W'
    unfold voted at W' ⊢
    split
    · exact ⟨h, none_mb⟩
    · rename_i hv
      rw [if_neg hv] at W'
      have h1 : RB c { r with votes := r.votes.set m.fr.toNat true } := ⟨h.term, h.log, h.nm⟩
      dsimp only at W' ⊢
      split
      · exact ⟨h1, none_mb⟩
      · rename_i hc
        rw [if_neg hc] at W'
        have h2 : RB c { r with votes := r.votes.set m.fr.toNat true, role := 2, next := [(r.log.length : Int) + 1, (r.log.length : Int) + 1, (r.log.length : Int) + 1], mtch := [0, 0, 0] } := ⟨h.term, h.log, fun _ j hj => by
          have : j = 0 ∨ j = 1 ∨ j = 2 := by omega
          rcases this with rfl | rfl | rfl <;> · show (0 : Int) + 1 ≤ (r.log.length : Int) + 1; omega⟩
        exact ⟨h2, all_mb h2 W' rfl⟩
  rename_i k1
  rw [if_neg k1] at W'
  split
  · rename_i k2
    unfold append
    dsimp only
    have hr3 := hm.recs k2
    split
    · exact ⟨h, answer_mb (message_mb h 3 _ (by decide))⟩
    split
    · exact ⟨h, none_mb⟩
    have h0 : RB c { r with role := 0 } := ⟨h.term, h.log, fun (e : (0 : Int) = 2) => absurd e (by decide)⟩
    have no2 : ∀ {k : Int}, k = 3 → k = 2 → False := fun a b => by omega
    split
    · exact ⟨h0, answer_mb ⟨h.term, fun e => (no2 rfl e).elim⟩⟩
    rename_i h3
    have hl : m.index ≤ r.log.length := by omega
    have hle := agree_le r.log m.index m.recs
    have ha := agree_in r.log m.index m.recs hix.1 hl
    split
    · split
      · exact ⟨h0, none_mb⟩
      · refine ⟨⟨h.term, ?_, fun (e : (0 : Int) = 2) => absurd e (by decide)⟩, answer_mb ⟨h.term, fun e => (no2 rfl e).elim⟩⟩
        show ((r.log.take (m.index + (agree r.log m.index m.recs : Int) + 1 - 1).toNat ++ m.recs.drop (agree r.log m.index m.recs)).length : Int) ≤ c
        rw [List.length_append, List.length_take, List.length_drop]
        omega
    · exact ⟨⟨h.term, h.log, fun (e : (0 : Int) = 2) => absurd e (by decide)⟩, answer_mb ⟨h.term, fun e => (no2 rfl e).elim⟩⟩
  · rename_i k2
    rw [if_neg k2] at W'
    unfold appended at W' ⊢
    split
    · exact ⟨h, none_mb⟩
    rename_i hc
    rw [if_neg hc] at W'
    have hrole : r.role = 2 := Decidable.byContradiction fun q => hc (.inl q)
    have hj : m.fr.toNat < 3 := by omega
    have hn := h.nm hrole
    dsimp only at W' ⊢
    split
    · rename_i hy
      rw [if_pos hy] at W'
      have h1 : RB c { r with next := r.next.set m.fr.toNat (max (r.mtch.getD m.fr.toNat 0 + 1) (min (r.next.getD m.fr.toNat 0 - 1) (m.index + 1))) } := ⟨h.term, h.log, fun _ k hk => by
        show r.mtch.getD k 0 + 1 ≤ (r.next.set m.fr.toNat _).getD k 0
        by_cases e : m.fr.toNat = k
        · subst e; rw [getD_set_eq _ _ _ _ (by rw [W.nextN]; exact hj)]; omega
        · rw [getD_set_ne _ _ _ e]; exact hn k hk⟩
      exact ⟨h1, answer_mb (entries_mb h1 W' hrole m.fr (by omega))⟩
    · rename_i hy
      rw [if_neg hy] at W'
      have h1 : RB c (advance { r with mtch := r.mtch.set m.fr.toNat (max (r.mtch.getD m.fr.toNat 0) m.index), next := r.next.set m.fr.toNat (max (r.mtch.getD m.fr.toNat 0) m.index + 1) }) := by
        have hmt : ∀ q : Rep, (advance q).mtch = q.mtch := fun q => by unfold advance; dsimp only; split <;> rfl
        obtain ⟨a1, a2, a3, a4, _⟩ := advance_same { r with mtch := r.mtch.set m.fr.toNat (max (r.mtch.getD m.fr.toNat 0) m.index), next := r.next.set m.fr.toNat (max (r.mtch.getD m.fr.toNat 0) m.index + 1) }
        refine ⟨by rw [a4]; exact h.term, by rw [a1]; exact h.log, fun _ k hk => ?_⟩
        rw [hmt, a2]
        show (r.mtch.set m.fr.toNat _).getD k 0 + 1 ≤ (r.next.set m.fr.toNat _).getD k 0
        by_cases e : m.fr.toNat = k
        · subst e; rw [getD_set_eq _ _ _ _ (by rw [W.mtchN]; exact hj), getD_set_eq _ _ _ _ (by rw [W.nextN]; exact hj)]; omega
        · rw [getD_set_ne _ _ _ e, getD_set_ne _ _ _ e]; exact hn k hk
      split
      · rename_i hm2
        rw [if_pos hm2] at W'
        have hro : (advance { r with mtch := r.mtch.set m.fr.toNat (max (r.mtch.getD m.fr.toNat 0) m.index), next := r.next.set m.fr.toNat (max (r.mtch.getD m.fr.toNat 0) m.index + 1) }).role = 2 := by rw [(advance_same _).2.2.1]; exact hrole
        exact ⟨h1, answer_mb (entries_mb h1 W' hro m.fr (by omega))⟩
      · exact ⟨h1, none_mb⟩
theorem hear_rb {c : Int} {r : Rep} {m : Msg} (h : RB c r) (hm : MB c m) (W : WF r) : RB c (hear r m).1 ∧ ∀ y ∈ (hear r m).2.send, MB c y := by
  cases hr : right r m
  · rw [hear_wrong hr]; exact ⟨h, none_mb⟩
  · obtain ⟨e1, e2⟩ := hear_deed hr
    rw [e1, e2]
    obtain ⟨⟨hk, hto, hfr, hfr3, htm, hix⟩, _⟩ := right_all hr
    refine deed_rb (bump_rb h hm) hm (W.bump htm.2) ?_ (bump_le r m)
    have := bump_log r m
    unfold right at hr ⊢
    rw [this.2.1]; exact hr
theorem tick_rb {c : Int} {r : Rep} (h : RB c r) (W : WF r) : RB (c + 1) (tick r).1 ∧ ∀ y ∈ (tick r).2.send, MB (c + 1) y := by
  unfold tick
  split
  · rename_i hr
    exact ⟨h.mono (by omega), fun y hy => (all_mb h W hr y hy).mono (by omega)⟩
  split
  · exact ⟨h.mono (by omega), none_mb⟩
  · have ht := h.term
    have hl := h.log
    refine ⟨⟨by show r.hard.term + 1 ≤ c + 1; omega, by show (r.log.length : Int) ≤ c + 1; omega, fun (e : (1 : Int) = 2) => absurd e (by decide)⟩, fun y hy => ?_⟩
    obtain ⟨i, _, rfl⟩ := List.mem_map.1 hy
    exact ⟨by show r.hard.term + 1 ≤ c + 1; omega, fun (e : (0 : Int) = 2) => absurd e (by decide)⟩
theorem propose_rb {c : Int} {r : Rep} (h : RB c r) (W : WF r) (d : ByteArray) (hT : LT r) : RB (c + 1) (propose r d).1 ∧ (∀ y ∈ (propose r d).2.2.2.send, MB (c + 1) y) ∧ WF (propose r d).1 := by
  have ht := h.term
  have hl := h.log
  unfold propose
  split
  · exact ⟨h.mono (by omega), none_mb, W⟩
  split
  · exact ⟨h.mono (by omega), none_mb, W⟩
  split
  · exact ⟨h.mono (by omega), none_mb, W⟩
  rename_i h1 h2 h3
  have hr : r.role = 2 := Decidable.byContradiction fun q => h1 q
  have t1 := hT (by rw [hr]; decide)
  have hcN := W.commitN
  have hlen := W.len
  have W2 : WF { r with log := r.log ++ [(⟨r.hard.term, d⟩ : Rec)] } := { W with
    len := by show (r.log ++ [(⟨r.hard.term, d⟩ : Rec)]).length ≤ 4000; simp; omega
    logOk := by
      show sound (r.log ++ [(⟨r.hard.term, d⟩ : Rec)]) 1 r.hard.term = true
      rw [sound_append, W.logOk, Bool.true_and]
      have hla : lastT 1 r.log ≤ r.hard.term := by
        have := lastT_take r.log 1 r.hard.term r.log.length (Nat.le_refl _) W.logOk
        rw [List.take_length] at this
        rw [this]
        split
        · exact t1
        · rename_i hne
          exact (sound_term r.log 1 r.hard.term r.log.length (by omega) (Nat.le_refl _) W.logOk).2
      show (if r.hard.term < lastT 1 r.log ∨ r.hard.term < r.hard.term ∨ 2000 < d.size then false else sound [] r.hard.term r.hard.term) = true
      rw [if_neg (by omega)]
      rfl
    commitN := by show r.commit ≤ ((r.log ++ [(⟨r.hard.term, d⟩ : Rec)]).length : Int); simp; omega
    nexts := fun e j hj => by
      have := W.nexts e j hj
      show 1 ≤ r.next.getD j 0 ∧ r.next.getD j 0 ≤ ((r.log ++ [(⟨r.hard.term, d⟩ : Rec)]).length : Int) + 1
      simp only [List.length_append, List.length_cons, List.length_nil]; omega
    mtchs := fun e j hj => by
      have := W.mtchs e j hj
      show 0 ≤ r.mtch.getD j 0 ∧ r.mtch.getD j 0 ≤ ((r.log ++ [(⟨r.hard.term, d⟩ : Rec)]).length : Int)
      simp only [List.length_append, List.length_cons, List.length_nil]; omega }
  have h4 : RB (c + 1) { r with log := r.log ++ [(⟨r.hard.term, d⟩ : Rec)] } := ⟨by show r.hard.term ≤ c + 1; omega, by show ((r.log ++ [(⟨r.hard.term, d⟩ : Rec)]).length : Int) ≤ c + 1; simp; omega, h.nm⟩
  exact ⟨h4, all_mb h4 W2 hr, W2⟩

/-- All is bounded. -/
structure Bd (c : Int) (x : Cl) : Prop where
  r : ∀ i, i < 3 → RB c (Rf x i)
  m : ∀ m ∈ x.sent, MB c m
theorem Bd.mono {c c' : Int} {x : Cl} (h : Bd c x) (hc : c ≤ c') : Bd c' x := ⟨fun i hi => (h.r i hi).mono hc, fun m hm => (h.m m hm).mono hc⟩
section
variable {c : Int} {x : Cl} {g : Gh} {i : Nat}
theorem start_bd (h : Bd c x) (P : PInv x g) (hi : i < 3) : Bd c (start x i) := by
  have hr : i < x.r.length := by rw [P.rN]; exact hi
  refine ⟨fun j hj => ?_, h.m⟩
  have e : Rf (start x i) = up (Rf x) i (made i (x.s.getD i zSt)) := rf_set _ _ _ hr
  rw [e]
  by_cases e : j = i
  · subst e
    rw [up_at]
    obtain ⟨s1, s2⟩ := P.st j hj
    exact ⟨by show (x.s.getD j zSt).hard.term ≤ c; rw [s1]; exact (h.r j hj).term, by show ((x.s.getD j zSt).log.length : Int) ≤ c; rw [s2]; exact (h.r j hj).log, fun (e : (0 : Int) = 2) => absurd e (by decide)⟩
  · rw [up_ne _ _ e]; exact h.r j hj
theorem done_bd {r' : Rep} {o : Out} (h : Bd c x) (P : PInv x g) (hi : i < 3) (h1 : RB c r') (h2 : ∀ y ∈ o.send, MB c y) (hst : Stores (Rf x i) r' o) : Bd c (done { x with r := x.r.set i r' } i o) := by
  have hr : i < x.r.length := by rw [P.rN]; exact hi
  have hs : i < x.s.length := by rw [P.sN]; exact hi
  have hup : ∀ (S : List St) (ms : List Msg), Rf (⟨x.r.set i r', S, ms⟩ : Cl) = up (Rf x) i r' := fun S ms => rf_set _ _ _ hr
  have hR : ∀ j, j < 3 → RB c (up (Rf x) i r' j) := fun j hj => by
    by_cases e : j = i
    · subst e; rw [up_at]; exact h1
    · rw [up_ne _ _ e]; exact h.r j hj
  have h0 := h.r i hi
  -- a replica as made of what is stored
  have hmade : ∀ s : St, s.hard.term ≤ c → (s.log.length : Int) ≤ c → RB c (made i s) := fun s a b => ⟨a, b, fun (e : (0 : Int) = 2) => absurd e (by decide)⟩
  obtain ⟨s1, s2⟩ := P.st i hi
  unfold done
  dsimp only
  split
  · refine ⟨fun j hj => ?_, h.m⟩
    have e : Rf (start ({ x with r := x.r.set i r' } : Cl) i) = up (Rf x) i (made i (x.s.getD i zSt)) := by
      have := rf_set (x.r.set i r') i (made i (x.s.getD i zSt)) (by simpa using hr)
      show (fun j => ((x.r.set i r').set i (made i (x.s.getD i zSt))).getD j zRep) = _
      rw [this, rf_set _ _ _ hr, up_up]
      rfl
    rw [e]
    by_cases e : j = i
    · subst e; rw [up_at]; exact hmade _ (by rw [s1]; exact h0.term) (by rw [s2]; exact h0.log)
    · rw [up_ne _ _ e]; exact h.r j hj
  · have hk : (kept (x.s.getD i zSt) o).hard = r'.hard ∧ (kept (x.s.getD i zSt) o).log = r'.log := by
      unfold kept; rw [s1, s2]; exact hst
    split
    · refine ⟨fun j hj => ?_, h.m⟩
      have e : Rf (start (⟨x.r.set i r', x.s.set i (kept (x.s.getD i zSt) o), x.sent⟩ : Cl) i) = up (Rf x) i (made i (kept (x.s.getD i zSt) o)) := by
        show (fun j => ((x.r.set i r').set i (made i ((x.s.set i (kept (x.s.getD i zSt) o)).getD i zSt))).getD j zRep) = _
        rw [getD_set_eq _ _ _ _ hs, rf_set (x.r.set i r') i _ (by simpa using hr), rf_set _ _ _ hr, up_up]
        rfl
      rw [e]
      by_cases e : j = i
      · subst e; rw [up_at]; exact hmade _ (by rw [hk.1]; exact h1.term) (by rw [hk.2]; exact h1.log)
      · rw [up_ne _ _ e]; exact h.r j hj
    · refine ⟨fun j hj => by rw [hup]; exact hR j hj, fun y hy => ?_⟩
      rcases List.mem_append.1 hy with hy | hy
      · exact h.m y hy
      · exact h2 y (List.mem_of_mem_take hy)
theorem arrive_bd (h : Bd c x) (P : PInv x g) (W : ∀ i, i < 3 → WF (Rf x i)) (n : Int) (keep : Bool) : Bd c (arrive x n keep) := by
  unfold arrive
  split
  · exact h
  rename_i hl
  dsimp only
  have hk : (pick n x.sent.length).toNat < x.sent.length := by
    unfold pick
    rw [if_neg (by omega)]
    have := Int.emod_nonneg n (show (x.sent.length : Int) ≠ 0 by omega)
    have := Int.emod_lt_of_pos n (show (0 : Int) < x.sent.length by omega)
    omega
  have hm := h.m _ (mem_getD x.sent _ zMsg hk)
  generalize x.sent.getD (pick n x.sent.length).toNat zMsg = m at hm
  have hi := pick3 m.to
  generalize (pick m.to 3).toNat = i at hi
  have P1 : PInv (if keep = true then x else { x with sent := x.sent.take (pick n x.sent.length).toNat ++ x.sent.drop ((pick n x.sent.length).toNat + 1) }) g := by
    split
    · exact P
    · exact pinv_sub P fun m h => mem_cut _ _ m h
  have B1 : Bd c (if keep = true then x else { x with sent := x.sent.take (pick n x.sent.length).toNat ++ x.sent.drop ((pick n x.sent.length).toNat + 1) }) := by
    split
    · exact h
    · exact ⟨h.r, fun m hm => h.m m (mem_cut _ _ m hm)⟩
  have W1 : ∀ i, i < 3 → WF (Rf (if keep = true then x else { x with sent := x.sent.take (pick n x.sent.length).toNat ++ x.sent.drop ((pick n x.sent.length).toNat + 1) }) i) := by
    split <;> exact W
  generalize (if keep = true then x else { x with sent := x.sent.take (pick n x.sent.length).toNat ++ x.sent.drop ((pick n x.sent.length).toNat + 1) }) = y at P1 W1 B1
  have := hear_rb (B1.r i hi) hm (W1 i hi)
  exact done_bd B1 P1 hi this.1 this.2 (hear_stores _ _)
theorem step_bd (h : Bd c x) (P : PInv x g) (W : ∀ i, i < 3 → WF (Rf x i)) (o : Op) : Bd (c + 1) (step x o) := by
  have hi := pick3 o.who
  have h' := h.mono (c' := c + 1) (by omega)
  unfold step
  dsimp only
  generalize (pick o.who 3).toNat = i at hi
  split
  · split
    · exact ⟨h'.r, fun m hm => h'.m m (mem_cut _ _ m hm)⟩
    · exact h'
  split
  · exact arrive_bd h' P W _ _
  split
  · have := tick_rb (h.r i hi) (W i hi)
    exact done_bd h' P hi this.1 this.2 (tick_stores _)
  split
  · have := propose_rb (h.r i hi) (W i hi) o.data (pinv_lt P W i hi)
    exact done_bd h' P hi this.1 this.2.1 (propose_stores _ _)
  split
  · exact start_bd h' P hi
  split
  · exact ⟨h'.r, h'.m⟩
  · exact arrive_bd h' P W _ _
end
end M
end Go.Proofs.Ytodmihpmbecncaa
