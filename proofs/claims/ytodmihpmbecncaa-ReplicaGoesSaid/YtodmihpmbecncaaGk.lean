/-
  The replicas' protocol goes on, part 11: a replica ticks and all messages arrive: it leads, or all know its term. No condition; no program in it.
-/
import Derived.Test.YtodmihpmbecncaaGj
namespace Go.Proofs.Ytodmihpmbecncaa
namespace M

theorem Still.ns {x : Cl} (h : Still x) : ∃ g, Ns (Rf x) x.sent g := by
  obtain ⟨g, P⟩ := h.pi
  exact ⟨g, P.inv, h.wf, P.msg⟩
/-- Nothing is in flight, all is bounded. -/
structure Quiet (c : Int) (x : Cl) : Prop where
  still : Still x
  sent : x.sent = []
  bd : Bd c x
theorem ends_quiet : ∀ {k n : Nat} {x : Cl} {c : Int} {Q : (Nat → Rep) → Prop}, k ≤ n → Still x → Bd c x → Ends k (Rf x) x.sent Q → Quiet c (flow n x) ∧ Q (Rf (flow n x)) := by
  intro k
  induction k with
  | zero =>
    intro n x c Q _ hx hb h
    cases hs : x.sent with
    | nil =>
      rw [hs] at h
      have hf : flow n x = x := by cases n with
        | zero => rfl
        | succ n => unfold flow; rw [if_pos (by rw [hs]; rfl)]
      rw [hf]
      exact ⟨⟨hx, hs, hb⟩, h⟩
    | cons m ms => rw [hs] at h; exact h.elim
  | succ k ih =>
    intro n x c Q hn hx hb h
    cases hs : x.sent with
    | nil =>
      rw [hs] at h
      have hf : flow n x = x := by cases n with
        | zero => rfl
        | succ n => unfold flow; rw [if_pos (by rw [hs]; rfl)]
      rw [hf]
      exact ⟨⟨hx, hs, hb⟩, h⟩
    | cons m ms =>
      rw [hs] at h
      obtain ⟨h1, h2, h3, h4⟩ := h
      obtain ⟨i, hi⟩ := Int.eq_ofNat_of_zero_le h1
      have e : m.to.toNat = i := by rw [hi]; rfl
      rw [e] at h3 h4
      obtain ⟨n, rfl⟩ : ∃ n', n = n' + 1 := ⟨n - 1, by omega⟩
      obtain ⟨a1, a2, a3⟩ := arrive_still hx hs hi (by omega) h3
      have hf : flow (n + 1) x = flow n (arrive x 0 false) := by
        show (if x.sent.length = 0 then x else flow n (arrive x 0 false)) = _
        rw [if_neg (by rw [hs]; simp)]
      rw [hf]
      obtain ⟨g, P⟩ := hx.pi
      exact ih (by omega) a1 (arrive_bd hb P hx.wf 0 false) (by rw [a2, a3]; exact h4)

/-- A replica ticks, and all messages arrive. -/
def turn (x : Cl) (p : Nat) : Cl := flow 2000 (done { x with r := x.r.set p (tick (Rf x p)).1 } p (tick (Rf x p)).2)
/-- It does not lead. -/
structure Lost (p : Nat) (R R' : Nat → Rep) : Prop where
  role : (R' p).role ≠ 2
  top : ∀ j, j < 3 → (R' j).hard.term ≤ (R' p).hard.term ∧ (R j).hard.term ≤ (R' j).hard.term
  old : (∀ j, j < 3 → (R' j).hard.term = (R' p).hard.term) ∨ ∃ h, h < 3 ∧ (R h).hard.term = (R' p).hard.term
  eq : ∀ E, (∀ j, j < 3 → (R j).hard.term = E) → (∀ j, j < 3 → (R' j).hard.term = E + 1 ∧ (R' j).log = (R j).log) ∧ ∀ j, j < 3 → j ≠ p → ¬ Best (R p).log (R j).log

theorem turn_ok {c : Int} {x : Cl} {p : Nat} (hq : Quiet c x) (hc : c ≤ 150) (hp : p < 3) :
    Quiet (c + 1) (turn x p) ∧ ((∃ T lg, Fin p T lg False (Rf (turn x p))) ∨ Lost p (Rf x) (Rf (turn x p))) := by
  obtain ⟨a, b, ho, ha, hb, hap, hbp, hab⟩ := others_two hp
  obtain ⟨g, P⟩ := hq.still.pi
  have W := hq.still.wf p hp
  have B := hq.bd.r p hp
  have hid := (P.inv.node p hp).id
  have tb := tick_rb B W
  have hlen2 : (tick (Rf x p)).2.send.length ≤ 2 := by
    unfold tick
    split
    · show (all (Rf x p)).length ≤ 2
      rw [all_two hid ho]; exact Nat.le_refl _
    split
    · exact Nat.zero_le _
    · show ((others (Rf x p).id).map _).length ≤ 2
      rw [hid, ho]; exact Nat.le_refl _
  obtain ⟨s1, s2, s3⟩ := done_still hq.still hp ⟨g, P, tick_good P.inv hp W⟩ (tick_stores _) (tick_wf W) (by rw [hq.sent]; simp; omega)
  have hB0 := done_bd (hq.bd.mono (c' := c + 1) (by omega)) P hp tb.1 tb.2 (tick_stores _)
  have s3 := s3.trans (show x.sent ++ (tick (Rf x p)).2.send = (tick (Rf x p)).2.send by rw [hq.sent, List.nil_append])
  unfold turn
  generalize done { x with r := x.r.set p (tick (Rf x p)).1 } p (tick (Rf x p)).2 = y at s1 s2 s3 hB0 ⊢
  generalize Rf x = R at *
  -- the greatest term of the others
  obtain ⟨h, hh, hhp, hmax⟩ : ∃ h, h < 3 ∧ h ≠ p ∧ ∀ j, j < 3 → j ≠ p → (R j).hard.term ≤ (R h).hard.term := by
    by_cases e : (R b).hard.term ≤ (R a).hard.term
    · refine ⟨a, ha, hap, fun j hj hjp => ?_⟩
      rcases peer_two hp ha hb hap hbp hab hj with rfl | rfl | rfl
      · exact absurd rfl hjp
      · exact Int.le_refl _
      · exact e
    · refine ⟨b, hb, hbp, fun j hj hjp => ?_⟩
      rcases peer_two hp ha hb hap hbp hab hj with rfl | rfl | rfl
      · exact absurd rfl hjp
      · omega
      · exact Int.le_refl _
  obtain ⟨g0, N0⟩ := s1.ns
  by_cases hr : (R p).role = 2
  · -- a leader
    have ht : tick (R p) = (R p, { noOut with send := all (R p) }) := by unfold tick; rw [if_pos hr]
    rw [ht] at s2 s3
    rw [up_self] at s2
    have s3 : y.sent = all (R p) := s3
    rw [all_two hid ho] at s3
    rw [s2, s3] at N0
    have L : Lead p (R p).hard.term (R p).log R := ⟨hp, hr, rfl, rfl, fun j hj _ => B.nm hr j hj⟩
    have Aa := app_of L N0.inv W ha
    have Ab := app_of L N0.inv W hb
    by_cases hlow : (R p).hard.term < (R h).hard.term
    · have htop : ∀ j, j < 3 → (R j).hard.term ≤ (R h).hard.term ∧ (R j).hard.term ≤ (R j).hard.term := fun j hj => by
        by_cases e : j = p
        · subst e; exact ⟨by omega, Int.le_refl _⟩
        · exact ⟨hmax j hj e, Int.le_refl _⟩
      have hE := low_lead (lo := fun j => (R j).hard.term) L ha hb hap hbp hab N0 Aa Ab hh hhp rfl hlow htop
      obtain ⟨q1, q2⟩ := ends_quiet (k := 40) (n := 2000) (by omega) s1 hB0 (by rw [s2, s3]; exact hE)
      refine ⟨q1, .inr ⟨q2.2.1, fun j hj => by have := q2.2.2.2 j hj; rw [q2.2.2.1]; exact this, .inr ⟨h, hh, q2.2.2.1.symm⟩, fun E hE => ?_⟩⟩
      have e1 := hE p hp
      have e2 := hE h hh
      omega
    · have hp6 : ∀ j, j < 3 → j ≠ p → pot p (R p).log R j + 2 ≤ 6 * (R p).log.length + 2 := fun j hj hjp => by
        obtain ⟨s, k1, k2, k3, k4⟩ := L.s W hj
        unfold pot
        omega
      have hla := B.log
      have pa := hp6 a ha hap
      have pb := hp6 b hb hbp
      have hE := lead_ends (F := False) (fun f => f.elim) (12 * (R p).log.length + 4) a b R _ g0 ha hb hap hbp hab L N0 (fun f => f.elim) (.inl ⟨_, _, _, _, rfl, .inl ⟨Aa, by have := hmax a ha hap; omega, rfl⟩, .inl ⟨Ab, by have := hmax b hb hbp; omega, rfl⟩, by omega⟩)
      obtain ⟨q1, q2⟩ := ends_quiet (k := 12 * (R p).log.length + 4) (n := 2000) (by omega) s1 hB0 (by rw [s2, s3]; exact hE)
      exact ⟨q1, .inl ⟨_, _, q2⟩⟩
  · have hbt := B.term
    have ht : tick (R p) = ({ R p with hard := ⟨(R p).hard.term + 1, (R p).id⟩, role := 1, votes := [false, false, false].set (R p).id.toNat true },
        { noOut with save := true, hard := ⟨(R p).hard.term + 1, (R p).id⟩, send := (others (R p).id).map (askOf { R p with hard := ⟨(R p).hard.term + 1, (R p).id⟩, role := 1, votes := [false, false, false].set (R p).id.toNat true }) }) := by
      unfold tick
      rw [if_neg hr, if_neg (by omega)]
    rw [ht] at s2 s3
    have s3 : y.sent = (others (R p).id).map (askOf { R p with hard := ⟨(R p).hard.term + 1, (R p).id⟩, role := 1, votes := [false, false, false].set (R p).id.toNat true }) := s3
    have hask : ∀ j : Nat, askOf { R p with hard := ⟨(R p).hard.term + 1, (R p).id⟩, role := 1, votes := [false, false, false].set (R p).id.toNat true } j = askM p j ((R p).hard.term + 1) (R p).log := fun j => by
      unfold askOf message askM
      dsimp only
      rw [hid]
      rfl
    rw [hid, ho, List.map_cons, List.map_cons, List.map_nil, ← hid, hask a, hask b] at s3
    have hvt : ([false, false, false] : List Bool).set (R p).id.toNat true = [false, false, false].set p true := by rw [hid, Int.toNat_natCast]
    generalize hr1 : ({ R p with hard := ⟨(R p).hard.term + 1, (R p).id⟩, role := 1, votes := [false, false, false].set (R p).id.toNat true } : Rep) = r1 at s2 s3
    have s2 : Rf y = up R p r1 := s2
    rw [s2, s3] at N0
    have L : Cand p ((R p).hard.term + 1) (R p).log (up R p r1) := ⟨hp, by rw [up_at, ← hr1], by rw [up_at, ← hr1], by rw [up_at, ← hr1], by rw [up_at, ← hr1]; exact hvt⟩
    have ej : ∀ j, j ≠ p → up R p r1 j = R j := fun j e => up_ne _ _ e
    have ep : (up R p r1 p).hard.term = (R p).hard.term + 1 := L.term
    by_cases hlow : (R p).hard.term + 1 < (R h).hard.term
    · have htop : ∀ j, j < 3 → (up R p r1 j).hard.term ≤ (R h).hard.term ∧ (R j).hard.term ≤ (up R p r1 j).hard.term := fun j hj => by
        by_cases e : j = p
        · subst e; rw [ep]; exact ⟨by omega, by omega⟩
        · rw [ej j e]; exact ⟨hmax j hj e, Int.le_refl _⟩
      have hE := low_cand (lo := fun j => (R j).hard.term) L ho ha hb hap hbp hab N0 hh hhp (by rw [ej h hhp]) hlow htop
      obtain ⟨q1, q2⟩ := ends_quiet (k := 40) (n := 2000) (by omega) s1 hB0 (by rw [s2, s3]; exact hE)
      refine ⟨q1, .inr ⟨q2.2.1, fun j hj => by have := q2.2.2.2 j hj; rw [q2.2.2.1]; exact this, .inr ⟨h, hh, q2.2.2.1.symm⟩, fun E hE => ?_⟩⟩
      have e1 := hE p hp
      have e2 := hE h hh
      omega
    · have hla := B.log
      have hE := cand_ends L ho ha hb hap hbp hab N0 (by rw [ej a hap]; have := hmax a ha hap; omega) (by rw [ej b hbp]; have := hmax b hb hbp; omega)
      obtain ⟨q1, q2⟩ := ends_quiet (k := 12 * (R p).log.length + 8) (n := 2000) (by omega) s1 hB0 (by rw [s2, s3]; exact hE)
      refine ⟨q1, q2.imp (fun q => ⟨_, _, q⟩) fun ⟨_, n1, n2, n3⟩ => ⟨by rw [n2]; decide, fun j hj => ?_, .inl fun j hj => by rw [(n1 j hj).1, (n1 p hp).1], fun E hE => ⟨fun j hj => ?_, fun j hj hjp => ?_⟩⟩⟩
      · rw [(n1 j hj).1, (n1 p hp).1]
        refine ⟨Int.le_refl _, ?_⟩
        by_cases e : j = p
        · subst e; omega
        · have := hmax j hj e; omega
      · refine ⟨by rw [(n1 j hj).1, hE p hp], ?_⟩
        rw [(n1 j hj).2]
        by_cases e : j = p
        · subst e; exact L.log
        · rw [ej j e]
      · have := n3 j hj hjp (by rw [ej j hjp, hE j hj, hE p hp]; omega)
        rw [ej j hjp] at this
        exact this
end M
end Go.Proofs.Ytodmihpmbecncaa
