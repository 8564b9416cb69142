/-
  The replicas' protocol goes on, part 6: an election, if nobody's term is greater. No condition; no program in it.
-/
import Derived.Test.YtodmihpmbecncaaGe
namespace Go.Proofs.Ytodmihpmbecncaa
namespace M

/-- The log lg is at least as good as l. -/
def Best (lg l : List Rec) : Prop := tn l l.length < tn lg lg.length ∨ (tn lg lg.length = tn l l.length ∧ l.length ≤ lg.length)
/-- Replica p asks for votes in term T. -/
structure Cand (p : Nat) (T : Int) (lg : List Rec) (R : Nat → Rep) : Prop where
  p3 : p < 3
  role : (R p).role = 1
  term : (R p).hard.term = T
  log : (R p).log = lg
  votes : (R p).votes = [false, false, false].set p true
def askM (p j : Nat) (T : Int) (lg : List Rec) : Msg := ⟨0, p, j, T, lg.length, tn lg lg.length, 0, false, []⟩
def voteM (p j : Nat) (T : Int) (y : Bool) : Msg := ⟨1, j, p, T, 0, 0, 0, y, []⟩

section
variable {p : Nat} {T : Int} {lg : List Rec} {R : Nat → Rep} {g : Gh} {j : Nat} {m : Msg} {ms : List Msg}
theorem Cand.t1 (L : Cand p T lg R) (I : Inv g R) : 1 ≤ T := by
  have := ((I.node p L.p3).ask L.role).1
  rw [L.term] at this
  exact (I.gi.vtc p T (by omega)).1
theorem Cand.far (L : Cand p T lg R) {i : Nat} (hi : i ≠ p) (r' : Rep) : Cand p T lg (up R i r') := by
  have e : up R i r' p = R p := up_ne _ _ (fun h => hi h.symm)
  exact ⟨L.p3, by rw [e]; exact L.role, by rw [e]; exact L.term, by rw [e]; exact L.log, by rw [e]; exact L.votes⟩
/-- Right as a request. -/
theorem ask_right (W : WF (R p)) (hT : (R p).hard.term = T) (hlog : (R p).log = lg) (t1 : 1 ≤ T) (hp : p < 3) (hjp : j ≠ p) {r : Rep} (hr : r.id = j) : right r (askM p j T lg) = true := by
  have tM := W.termM
  have hl := W.len
  have hs := W.logOk
  rw [hT] at tM
  rw [hlog] at hl
  rw [hT, hlog] at hs
  refine right_intro ⟨by show (0 : Int) ≤ 0; omega, by show (0 : Int) ≤ 3; omega⟩ (by rw [hr]; rfl) (by rw [hr]; show (p : Int) ≠ j; omega) ⟨by show (0 : Int) ≤ p; omega, by show (p : Int) ≤ 2; omega⟩ ⟨t1, tM⟩
    ⟨by show (0 : Int) ≤ (lg.length : Int); omega, by show (lg.length : Int) ≤ 4000; omega⟩ (tn_range hs (by omega) _ (Nat.le_refl _)) (fun e => ?_) ⟨by show (0 : Int) ≤ 0; omega, by show (0 : Int) ≤ 4000; omega⟩ (by show 0 ≤ 8; omega) (by show (lg.length : Int) + (0 : Nat) ≤ 4000; omega) rfl
  have e : (lg.length : Int) = 0 := e
  show tn lg lg.length = 0
  rw [show lg.length = 0 from by omega]
  exact tn_zero lg
theorem vote_right (hid : (R p).id = p) (hT : 1 ≤ T ∧ T ≤ 1099511627776) (hj : j < 3) (hjp : j ≠ p) (y : Bool) : right (R p) (voteM p j T y) = true :=
  right_intro ⟨by show (0 : Int) ≤ 1; omega, by show (1 : Int) ≤ 3; omega⟩ (by rw [hid]; rfl) (by rw [hid]; show (j : Int) ≠ p; omega) ⟨by show (0 : Int) ≤ j; omega, by show (j : Int) ≤ 2; omega⟩ hT ⟨by show (0 : Int) ≤ 0; omega, by show (0 : Int) ≤ 4000; omega⟩
    ⟨by show (0 : Int) ≤ 0; omega, by show (0 : Int) ≤ T; omega⟩ (fun _ => rfl) ⟨by show (0 : Int) ≤ 0; omega, by show (0 : Int) ≤ 4000; omega⟩ (by show 0 ≤ 8; omega) (by show (0 : Int) + (0 : Nat) ≤ 4000; omega) rfl

/-- A replica hears a request of a term that is not below its own. -/
theorem ask_step (N : Ns R (askM p j T lg :: ms) g) (hT : (R p).hard.term = T) (hlog : (R p).log = lg) (t1 : 1 ≤ T) (hp : p < 3) (hj : j < 3) (hjp : j ≠ p) (hle : (R j).hard.term ≤ T) :
    ∃ y, (hear (R j) (askM p j T lg)).2.send = [voteM p j T y] ∧ (hear (R j) (askM p j T lg)).1.hard.term = T ∧ (hear (R j) (askM p j T lg)).1.log = (R j).log ∧ ((R j).hard.term < T → Best lg (R j).log → y = true) := by
  have hr := ask_right (N.wf p hp) hT hlog t1 hp hjp (N.inv.node j hj).id
  obtain ⟨e1, e2⟩ := hear_deed hr
  rw [e1, e2]
  have hid : (bump (R j) (askM p j T lg)).id = j := by rw [(bump_log _ _).2.1]; exact (N.inv.node j hj).id
  have hl : (bump (R j) (askM p j T lg)).log = (R j).log := (bump_log _ _).1
  have ht : (bump (R j) (askM p j T lg)).hard.term = T := by
    unfold bump
    split
    · rfl
    · rename_i hc
      have hc : ¬ (R j).hard.term < T := hc
      omega
  have hv : (R j).hard.term < T → (bump (R j) (askM p j T lg)).hard.vote = -1 := fun h => by
    unfold bump
    rw [if_pos (show (R j).hard.term < (askM p j T lg).term from h)]
  generalize bump (R j) (askM p j T lg) = r1 at *
  have hd : deed r1 (askM p j T lg) = vote r1 (askM p j T lg) := by unfold deed; exact if_pos rfl
  rw [hd]
  unfold vote
  dsimp only
  have hmsg : message r1 1 (askM p j T lg).fr = voteM p j T false := by unfold message voteM askM; rw [hid, ht]
  rw [hmsg]
  by_cases hc : (askM p j T lg).term = r1.hard.term ∧ (r1.hard.vote = -1 ∨ r1.hard.vote = (askM p j T lg).fr) ∧ fresh r1 (askM p j T lg) = true
  · rw [if_pos hc]
    exact ⟨true, rfl, ht, hl, fun _ _ => rfl⟩
  · rw [if_neg hc]
    refine ⟨false, rfl, ht, hl, fun h1 h2 => absurd ⟨?_, .inl (hv h1), ?_⟩ hc⟩
    · rw [ht]; rfl
    · unfold fresh
      rw [hl]
      have h2 : tn (R j).log (R j).log.length < tn lg lg.length ∨ (tn lg lg.length = tn (R j).log (R j).log.length ∧ (R j).log.length ≤ lg.length) := h2
      show (decide (tn (R j).log (R j).log.length < tn lg lg.length) || (decide (tn lg lg.length = tn (R j).log (R j).log.length) && decide (((R j).log.length : Int) ≤ (lg.length : Int)))) = true
      rcases h2 with q | ⟨q1, q2⟩
      · simp [q]
      · rw [Bool.or_eq_true, Bool.and_eq_true]
        exact .inr ⟨decide_eq_true q1, decide_eq_true (by omega)⟩

/-- A vote for nothing. -/
theorem idle_step {y : Bool} (hr : (R p).role ≠ 1 ∨ y = false) (hT : (R p).hard.term = T) : (hear (R p) (voteM p j T y)).1 = R p ∧ (hear (R p) (voteM p j T y)).2.send = [] := by
  cases hri : right (R p) (voteM p j T y)
  · rw [hear_wrong hri]; exact ⟨rfl, rfl⟩
  · obtain ⟨e1, e2⟩ := hear_deed hri
    have hb : bump (R p) (voteM p j T y) = R p := by
      unfold bump
      exact if_neg (by rw [hT]; show ¬ T < T; omega)
    have hd : deed (R p) (voteM p j T y) = (R p, noOut) := by
      unfold deed
      rw [if_neg (show ¬ (voteM p j T y).kind = 0 by show ¬ (1 : Int) = 0; decide), if_pos (show (voteM p j T y).kind = 1 from rfl)]
      unfold voted
      rw [if_pos]
      rcases hr with h | h
      · exact .inl h
      · exact .inr (.inr h)
    rw [e1, e2, hb, hd]
    exact ⟨rfl, rfl⟩
/-- The vote that decides. -/
theorem yes_step (L : Cand p T lg R) (N : Ns R (voteM p j T true :: ms) g) (hj : j < 3) (hjp : j ≠ p) :
    ∃ r', (hear (R p) (voteM p j T true)).1 = r' ∧ (hear (R p) (voteM p j T true)).2.send = all r' ∧ Lead p T lg (up R p r') ∧ (∀ k, k < 3 → r'.mtch.getD k 0 = 0 ∧ r'.next.getD k 0 = lg.length + 1) := by
  have W := N.wf p L.p3
  have tM := W.termM
  rw [L.term] at tM
  have hri := vote_right (j := j) (N.inv.node p L.p3).id ⟨L.t1 N.inv, tM⟩ hj hjp true
  obtain ⟨e1, e2⟩ := hear_deed hri
  have hb : bump (R p) (voteM p j T true) = R p := by
    unfold bump
    exact if_neg (by rw [L.term]; show ¬ T < T; omega)
  have hd : deed (R p) (voteM p j T true) = voted (R p) (voteM p j T true) := by
    unfold deed
    rw [if_neg (show ¬ (voteM p j T true).kind = 0 by show ¬ (1 : Int) = 0; decide), if_pos (show (voteM p j T true).kind = 1 from rfl)]
  rw [hb, hd] at e1 e2
  rw [e1, e2]
  unfold voted
  rw [if_neg (by
    rintro (q | q | q)
    · exact q L.role
    · exact q L.term.symm
    · cases q)]
  dsimp only
  have hcnt : ¬ count ((R p).votes.set (voteM p j T true).fr.toNat true) < 2 := by
    rw [L.votes]
    show ¬ count (([false, false, false].set p true).set ((j : Int).toNat) true) < 2
    rw [Int.toNat_natCast]
    have h1 : p = 0 ∨ p = 1 ∨ p = 2 := by have := L.p3; omega
    have h2 : j = 0 ∨ j = 1 ∨ j = 2 := by omega
    rcases h1 with rfl | rfl | rfl <;> rcases h2 with rfl | rfl | rfl <;> first | (exact absurd rfl hjp) | decide
  rw [if_neg hcnt]
  refine ⟨_, rfl, rfl, ⟨L.p3, ?_, ?_, ?_, fun k hk hkp => ?_⟩, fun k hk => ?_⟩
  · rw [up_at]
  · rw [up_at]; exact L.term
  · rw [up_at]; exact L.log
  · rw [up_at]
    have : k = 0 ∨ k = 1 ∨ k = 2 := by omega
    rcases this with rfl | rfl | rfl <;> · show (0 : Int) + 1 ≤ ((R p).log.length : Int) + 1; omega
  · have : k = 0 ∨ k = 1 ∨ k = 2 := by omega
    rw [← L.log]
    rcases this with rfl | rfl | rfl <;> exact ⟨rfl, rfl⟩
end

theorem others_two {p : Nat} (hp : p < 3) : ∃ a b : Nat, others (p : Int) = [(a : Int), (b : Int)] ∧ a < 3 ∧ b < 3 ∧ a ≠ p ∧ b ≠ p ∧ a ≠ b := by
  have : p = 0 ∨ p = 1 ∨ p = 2 := by omega
  rcases this with rfl | rfl | rfl
  · exact ⟨1, 2, rfl, by omega, by omega, by omega, by omega, by omega⟩
  · exact ⟨0, 2, rfl, by omega, by omega, by omega, by omega, by omega⟩
  · exact ⟨0, 1, rfl, by omega, by omega, by omega, by omega, by omega⟩
theorem peer_two {p a b : Nat} (hp : p < 3) (ha : a < 3) (hb : b < 3) (hap : a ≠ p) (hbp : b ≠ p) (hab : a ≠ b) {j : Nat} (hj : j < 3) : j = p ∨ j = a ∨ j = b := by omega
end M
end Go.Proofs.Ytodmihpmbecncaa
