/-
  The replicas' protocol goes on, part 3: a leader's entries and what is answered. No condition; no program in it.
-/
import Derived.Test.YtodmihpmbecncaaGb
namespace Go.Proofs.Ytodmihpmbecncaa
namespace M

/-- Replica p leads term T with the log lg. -/
structure Lead (p : Nat) (T : Int) (lg : List Rec) (R : Nat → Rep) : Prop where
  p3 : p < 3
  role : (R p).role = 2
  term : (R p).hard.term = T
  log : (R p).log = lg
  nm : ∀ j, j < 3 → j ≠ p → (R p).mtch.getD j 0 + 1 ≤ (R p).next.getD j 0
/-- Entries on their way to replica j. -/
def App (p : Nat) (T : Int) (lg : List Rec) (R : Nat → Rep) (j : Nat) (m : Msg) : Prop :=
  ∃ (s : Nat) (c : Int), (R p).next.getD j 0 = s + 1 ∧ s ≤ lg.length ∧ 0 ≤ c ∧ c ≤ 4000 ∧ m = ⟨2, p, j, T, s, tn lg s, c, false, (lg.drop s).take 8⟩
/-- Replica j's answer on its way. -/
def Rpl (p : Nat) (T : Int) (lg : List Rec) (R : Nat → Rep) (j : Nat) (m : Msg) : Prop :=
  ∃ (s i : Nat) (y : Bool), (R p).next.getD j 0 = s + 1 ∧ s ≤ lg.length ∧ m = ⟨3, j, p, T, i, 0, 0, y, []⟩ ∧ (y = true → i = s + ((lg.drop s).take 8).length) ∧ (y = false → i + 1 ≤ s ∧ (R p).mtch.getD j 0 < s)
def pot (p : Nat) (lg : List Rec) (R : Nat → Rep) (j : Nat) : Int := 4 * (lg.length - (R p).mtch.getD j 0) + 2 * ((R p).next.getD j 0 - 1 - (R p).mtch.getD j 0)

section
variable {p : Nat} {T : Int} {lg : List Rec} {R : Nat → Rep} {g : Gh} {j : Nat} {m : Msg} {ms : List Msg}
theorem Lead.el (L : Lead p T lg R) (I : Inv g R) : g.ld T = p ∧ g.el T = lg := by
  have := (I.node p L.p3).lead L.role
  rw [L.term, L.log] at this
  exact ⟨this.1, this.2.1⟩
theorem Lead.t1 (L : Lead p T lg R) (I : Inv g R) : 1 ≤ T := by
  have := I.gi.ldo T p (L.el I).1
  exact (I.gi.vtc p T (by omega)).1
theorem Lead.agree (L : Lead p T lg R) (I : Inv g R) (hj : j < 3) (hjp : j ≠ p) (hT : (R j).hard.term = T) : Ag lg (R j).log ((R p).mtch.getD j 0).toNat := by
  have h1 := ((I.node p L.p3).lead L.role).2.2 j hj hjp
  have h2 := (I.node j hj).akT
  rw [L.term] at h1
  rw [hT, (L.el I).2] at h2
  exact h2.mono (by omega)
theorem Lead.mzero (L : Lead p T lg R) (I : Inv g R) (hj : j < 3) (hjp : j ≠ p) (hT : (R j).hard.term < T) : (R p).mtch.getD j 0 ≤ 0 := by
  have h1 := ((I.node p L.p3).lead L.role).2.2 j hj hjp
  have h2 := (I.node j hj).cur
  rw [L.term] at h1
  have h3 : g.ak j T = 0 := Decidable.byContradiction fun h => by have := I.gi.akc j T h; omega
  omega
theorem Lead.nolead (L : Lead p T lg R) (I : Inv g R) (hj : j < 3) (hjp : j ≠ p) (hT : (R j).hard.term = T) : (R j).role ≠ 2 := fun e => by
  have h1 := ((I.node j hj).lead e).1
  rw [hT, (L.el I).1] at h1
  omega
theorem Lead.s (L : Lead p T lg R) (W : WF (R p)) (hj : j < 3) : ∃ s : Nat, (R p).next.getD j 0 = s + 1 ∧ s ≤ lg.length ∧ 0 ≤ (R p).mtch.getD j 0 ∧ (R p).mtch.getD j 0 ≤ lg.length := by
  have h1 := W.nexts L.role j hj
  have h2 := W.mtchs L.role j hj
  rw [L.log] at h1 h2
  obtain ⟨s, hs⟩ := Int.eq_ofNat_of_zero_le (show 0 ≤ (R p).next.getD j 0 - 1 by omega)
  exact ⟨s, by omega, by omega, h2.1, h2.2⟩
theorem app_of (L : Lead p T lg R) (I : Inv g R) (W : WF (R p)) (hj : j < 3) : App p T lg R j (entries (R p) j) := by
  obtain ⟨s, h1, h2, _⟩ := L.s W hj
  refine ⟨s, (R p).commit, h1, h2, W.commit0, by have := W.commitN; have := W.len; omega, ?_⟩
  have e : (R p).next.getD (j : Int).toNat 0 - 1 = s := by rw [Int.toNat_natCast]; omega
  unfold entries message
  dsimp only
  rw [e, L.term, L.log, (I.node p L.p3).id]
  rfl
theorem sound_cut {l : List Rec} {T : Int} (h : sound l 1 T = true) (s n : Nat) (hs : s ≤ l.length) : sound ((l.drop s).take n) (max 1 (tn l s)) T = true := by
  have h1 := sound_append (l.take s) (l.drop s) 1 T
  rw [List.take_append_drop, h] at h1
  have h2 : sound (l.drop s) (lastT 1 (l.take s)) T = true := by
    have := h1.symm
    rw [Bool.and_eq_true] at this
    exact this.2
  have h3 := sound_append ((l.drop s).take n) ((l.drop s).drop n) (lastT 1 (l.take s)) T
  rw [List.take_append_drop, h2] at h3
  have h4 : sound ((l.drop s).take n) (lastT 1 (l.take s)) T = true := by
    have := h3.symm
    rw [Bool.and_eq_true] at this
    exact this.1
  refine sound_least _ _ _ _ ?_ h4
  rw [lastT_take l 1 T s hs h]
  by_cases e : s = 0
  · subst e; rw [if_pos rfl, tn_zero]; omega
  · rw [if_neg e]
    have := (sound_term l 1 T s (by omega) hs h).1
    show max 1 (tm l s) ≤ tm l s
    omega
theorem tn_range {l : List Rec} {T : Int} (h : sound l 1 T = true) (hT : 0 ≤ T) (s : Nat) (hs : s ≤ l.length) : 0 ≤ tn l s ∧ tn l s ≤ T := by
  by_cases e : s = 0
  · subst e; rw [tn_zero]; omega
  · have := sound_term l 1 T s (by omega) hs h
    show 0 ≤ tm l s ∧ tm l s ≤ T
    omega
theorem app_right (L : Lead p T lg R) (I : Inv g R) (W : WF (R p)) (h : App p T lg R j m) (hj : j < 3) (hjp : j ≠ p) {r : Rep} (hr : r.id = j) : right r m = true := by
  obtain ⟨s, c, h1, h2, h3, h4, rfl⟩ := h
  have t1 := L.t1 I
  have tM := W.termM
  have hl := W.len
  have hs := W.logOk
  have p3 := L.p3
  rw [L.term] at tM
  rw [L.log] at hl
  rw [L.term, L.log] at hs
  have hlen : ((lg.drop s).take 8).length ≤ lg.length - s := by rw [List.length_take, List.length_drop]; omega
  refine right_intro ⟨by show (0 : Int) ≤ 2; omega, by show (2 : Int) ≤ 3; omega⟩ (by rw [hr]) (by rw [hr]; show (p : Int) ≠ j; omega) ⟨by show (0 : Int) ≤ p; omega, by show (p : Int) ≤ 2; have := hj; omega⟩ ⟨t1, tM⟩ ⟨by show (0 : Int) ≤ s; omega, by show (s : Int) ≤ 4000; omega⟩
    (tn_range hs (by omega) s h2) (fun e => ?_) ⟨h3, h4⟩ (by show ((lg.drop s).take 8).length ≤ 8; rw [List.length_take]; omega) (by show (s : Int) + (((lg.drop s).take 8).length : Int) ≤ 4000; omega) (sound_cut hs s 8 h2)
  have : s = 0 := by have e : (s : Int) = 0 := e; omega
  subst this
  exact tn_zero lg

theorem app_step (L : Lead p T lg R) (N : Ns R (m :: ms) g) (h : App p T lg R j m) (hj : j < 3) (hjp : j ≠ p) (hle : (R j).hard.term ≤ T) :
    ∃ a, (hear (R j) m).2.send = [a] ∧ Rpl p T lg R j a ∧ (hear (R j) m).1.hard.term = T ∧ (hear (R j) m).1.role = 0 := by
  have I := N.inv
  have W := N.wf p L.p3
  have hr := app_right L I W h hj hjp (I.node j hj).id
  obtain ⟨e1, e2⟩ := hear_deed hr
  rw [e1, e2]
  have hnm := L.nm j hj hjp
  obtain ⟨s, c, h1, h2, h3, h4, rfl⟩ := h
  have hE := (L.el I)
  generalize hr1 : bump (R j) ⟨2, p, j, T, s, tn lg s, c, false, (lg.drop s).take 8⟩ = r1
  have hid : r1.id = j := by rw [← hr1, (bump_log _ _).2.1]; exact (I.node j hj).id
  have hlog : r1.log = (R j).log := by rw [← hr1]; exact (bump_log _ _).1
  have hcom : r1.commit = (R j).commit := by rw [← hr1]; exact (bump_log _ _).2.2
  have hrt : r1.hard.term = T ∧ r1.role ≠ 2 := by
    rw [← hr1]
    unfold bump
    split
    · exact ⟨rfl, by show (0 : Int) ≠ 2; decide⟩
    · rename_i hc
      have : (R j).hard.term = T := by
        have hc : ¬ (R j).hard.term < T := hc
        omega
      exact ⟨this, L.nolead I hj hjp this⟩
  have hd : deed r1 ⟨2, p, j, T, s, tn lg s, c, false, (lg.drop s).take 8⟩ = append r1 ⟨2, p, j, T, s, tn lg s, c, false, (lg.drop s).take 8⟩ := by
    unfold deed
    rw [if_neg (show ¬ (2 : Int) = 0 by decide), if_neg (show ¬ (2 : Int) = 1 by decide), if_pos rfl]
  rw [hd]
  clear hd hr1 e1 e2 hr
  -- the logs agree up to what is matched
  have hmt : (s : Int) ≤ (R p).mtch.getD j 0 → 1 ≤ s → s ≤ (R j).log.length ∧ tm (R j).log s = tn lg s := fun q1 q2 => by
    have hT : (R j).hard.term = T := by
      refine Decidable.byContradiction fun q => ?_
      have := L.mzero I hj hjp (by omega)
      omega
    have := L.agree I hj hjp hT
    have := this.mono (m := s) (by omega)
    exact ⟨this.2.1, (this.tn (p := s) (Nat.le_refl _)).symm⟩
  unfold append
  dsimp only
  rw [if_neg (by rw [hrt.1]; omega), if_neg hrt.2, hlog, hcom]
  by_cases hrej : ((R j).log.length : Int) < s ∨ tm (R j).log s ≠ tn lg s
  · rw [if_pos hrej]
    have hs1 : 1 ≤ s := by
      rcases Nat.eq_zero_or_pos s with rfl | q
      · rcases hrej with q | q
        · omega
        · exact absurd rfl q
      · exact q
    refine ⟨_, rfl, ⟨s, min (R j).log.length (s - 1), false, h1, h2, ?_, fun e => (by cases e), fun _ => ⟨by omega, ?_⟩⟩, hrt.1, rfl⟩
    · unfold message
      dsimp only
      rw [hid, hrt.1]
      congr 1
      omega
    · refine Decidable.byContradiction fun q => ?_
      have := hmt (by omega) hs1
      rcases hrej with q' | q'
      · omega
      · exact q' this.2
  · rw [if_neg hrej]
    have hsl : s ≤ (R j).log.length := by
      refine Decidable.byContradiction fun q => hrej (.inl (by omega))
    have htm : tm (R j).log s = tn lg s := Decidable.byContradiction fun q => hrej (.inr q)
    have hyes : Rpl p T lg R j { message r1 3 p with yes := true, index := (s : Int) + (((lg.drop s).take 8).length : Int) } := by
      refine ⟨s, s + ((lg.drop s).take 8).length, true, h1, h2, ?_, fun _ => rfl, fun e => (by cases e)⟩
      unfold message
      rw [hid, hrt.1]
      congr 1
    by_cases hk : agree (R j).log s ((lg.drop s).take 8) < ((lg.drop s).take 8).length
    · rw [if_pos hk]
      have hc : ¬ (s : Int) + (agree (R j).log s ((lg.drop s).take 8) : Int) + 1 ≤ (R j).commit := fun hc => by
        have Nd := I.node j hj
        have hM : ∀ q, 1 ≤ q → q ≤ (R j).log.length → q ≤ lg.length → tn (R j).log q = tn lg q → Ag (R j).log lg q := by
          have := fun q => gl_match (p := q) Nd.gl (I.gi.elg T)
          rw [hE.2] at this
          exact this
        have hA0 : Ag (R j).log lg s := by
          rcases Nat.eq_zero_or_pos s with rfl | q
          · exact Ag.zero _ _
          · exact hM s q hsl h2 htm
        have h8 : s + ((lg.drop s).take 8).length ≤ lg.length := by rw [List.length_take, List.length_drop]; omega
        have hre : (lg.drop s).take ((lg.drop s).take 8).length = (lg.drop s).take 8 := by
          rw [List.length_take, Nat.min_def]
          split
          · rfl
          · rw [List.take_of_length_le (Nat.le_refl _), List.take_of_length_le (by omega)]
        have := agree_ag hM ((lg.drop s).take 8).length s h8 hA0
        rw [hre] at this
        refine this.2 hk ?_
        rcases Nd.cm with q | ⟨T0, n, c1, c2, c3, c4⟩
        · omega
        · have hpre := chosen_pre I.gi c1 (T2 := T) (by omega) (by rw [hE.1]; omega)
          rw [hE.2] at hpre
          have hall : Ag (R j).log lg (R j).commit.toNat := c4.symm.trans (hpre.mono (by omega))
          exact hall.mono (by omega)
      rw [if_neg hc]
      exact ⟨_, rfl, hyes, hrt.1, rfl⟩
    · rw [if_neg hk]
      exact ⟨_, rfl, hyes, hrt.1, rfl⟩
end
end M
end Go.Proofs.Ytodmihpmbecncaa
