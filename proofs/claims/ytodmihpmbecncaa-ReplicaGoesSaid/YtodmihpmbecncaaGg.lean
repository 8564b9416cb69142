/-
  The replicas' protocol goes on, part 7: an election to its end, if nobody's term is greater. No condition; no program in it.
-/
import Derived.Test.YtodmihpmbecncaaGf
namespace Go.Proofs.Ytodmihpmbecncaa
namespace M

/-- The election of p was lost; nobody's log has changed. -/
def NoL (p : Nat) (T : Int) (lg : List Rec) (R R' : Nat → Rep) : Prop :=
  (∃ g, Ns R' [] g) ∧ (∀ j, j < 3 → (R' j).hard.term = T ∧ (R' j).log = (R j).log) ∧ (R' p).role = 1 ∧ ∀ j, j < 3 → j ≠ p → (R j).hard.term < T → ¬ Best lg (R j).log

section
variable {p a b : Nat} {T : Int} {lg : List Rec} {R : Nat → Rep} {g : Gh}
theorem all_two {r : Rep} (hid : r.id = p) (ho : others (p : Int) = [(a : Int), (b : Int)]) : all r = [entries r a, entries r b] := by
  unfold all; rw [hid, ho]; rfl
/-- A new leader's first messages. -/
theorem new_ends {r' : Rep} (L : Lead p T lg (up R p r')) (N : Ns (up R p r') [entries r' a, entries r' b] g) (h0 : ∀ k, k < 3 → r'.mtch.getD k 0 = 0 ∧ r'.next.getD k 0 = lg.length + 1) (ha : a < 3) (hb : b < 3) (hap : a ≠ p) (hbp : b ≠ p) (hab : a ≠ b)
    (ta : (R a).hard.term ≤ T) (tb : (R b).hard.term ≤ T) : Ends (12 * lg.length + 4) (up R p r') [entries r' a, entries r' b] (Fin p T lg False) := by
  have W := N.wf p L.p3
  have Aa := app_of L N.inv W ha
  have Ab := app_of L N.inv W hb
  rw [up_at] at Aa Ab
  have hp : ∀ k, k < 3 → pot p lg (up R p r') k = 6 * lg.length := fun k hk => by
    unfold pot
    rw [up_at, (h0 k hk).1, (h0 k hk).2]; omega
  refine lead_ends (F := False) (fun f => f.elim) _ a b _ _ g ha hb hap hbp hab L N (fun f => f.elim) (.inl ⟨_, _, _, _, rfl, .inl ⟨Aa, by rw [up_ne _ _ hap]; exact ta, rfl⟩, .inl ⟨Ab, by rw [up_ne _ _ hbp]; exact tb, rfl⟩, ?_⟩)
  rw [hp a ha, hp b hb]; omega

theorem cand_ends (L : Cand p T lg R) (ho : others (p : Int) = [(a : Int), (b : Int)]) (ha : a < 3) (hb : b < 3) (hap : a ≠ p) (hbp : b ≠ p) (hab : a ≠ b) (N : Ns R [askM p a T lg, askM p b T lg] g) (ta : (R a).hard.term ≤ T) (tb : (R b).hard.term ≤ T) :
    Ends (12 * lg.length + 8) R [askM p a T lg, askM p b T lg] (fun R' => Fin p T lg False R' ∨ NoL p T lg R R') := by
  have t1 := L.t1 N.inv
  obtain ⟨ya, a1, a2, a3, a4⟩ := ask_step N L.term L.log t1 L.p3 ha hap ta
  obtain ⟨g1, _, N1⟩ := N.deliver ha
  rw [a1] at N1
  refine Ends.cons (k := 12 * lg.length + 7) (i := a) rfl ha rfl a1 (by simp) ?_
  generalize (hear (R a) (askM p a T lg)).1 = ra at a2 a3 N1 ⊢
  have L1 := L.far hap ra
  have eb : up R a ra b = R b := up_ne _ _ (fun e => hab e.symm)
  obtain ⟨yb, b1, b2, b3, b4⟩ := ask_step (ms := [voteM p a T ya]) N1 L1.term L1.log t1 L.p3 hb hbp (by rw [eb]; exact tb)
  obtain ⟨g2, _, N2⟩ := N1.deliver hb
  rw [b1] at N2
  refine Ends.cons (k := 12 * lg.length + 6) (i := b) rfl hb rfl b1 (by simp) ?_
  generalize (hear (up R a ra b) (askM p b T lg)).1 = rb at b2 b3 N2 ⊢
  rw [eb] at b3 b4
  have L2 := L1.far hbp rb
  have e2a : up (up R a ra) b rb a = ra := by rw [up_ne _ _ hab, up_at]
  have e2b : up (up R a ra) b rb b = rb := up_at _ _ _
  have e2p : up (up R a ra) b rb p = R p := by rw [up_ne _ _ (fun e => hbp e.symm), up_ne _ _ (fun e => hap e.symm)]
  generalize up (up R a ra) b rb = R2 at L2 N2 e2a e2b e2p ⊢
  have t2a : (R2 a).hard.term ≤ T := by rw [e2a, a2]; exact Int.le_refl _
  have t2b : (R2 b).hard.term ≤ T := by rw [e2b, b2]; exact Int.le_refl _
  show Ends (12 * lg.length + 6) R2 [voteM p a T ya, voteM p b T yb] _
  cases ya
  · obtain ⟨i1, i2⟩ := idle_step (p := p) (j := a) (R := R2) (y := false) (.inr rfl) L2.term
    obtain ⟨g3, _, N3⟩ := Ns.deliver (ms := [voteM p b T yb]) N2 L.p3
    rw [i1, i2, up_self] at N3
    refine Ends.cons (k := 12 * lg.length + 5) (i := p) rfl L.p3 i1 i2 (by simp) ?_
    rw [up_self]
    show Ends (12 * lg.length + 5) R2 [voteM p b T yb] _
    cases yb
    · obtain ⟨j1, j2⟩ := idle_step (p := p) (j := b) (R := R2) (y := false) (.inr rfl) L2.term
      obtain ⟨g4, _, N4⟩ := Ns.deliver (ms := []) N3 L.p3
      rw [j1, j2, up_self] at N4
      refine Ends.cons (k := 12 * lg.length + 4) (i := p) rfl L.p3 j1 j2 (by simp) (Ends.nil ?_)
      rw [up_self]
      refine .inr ⟨⟨g4, N4⟩, fun j hj => ?_, L2.role, fun j hj hjp hlt hB => ?_⟩
      · rcases peer_two L.p3 ha hb hap hbp hab hj with rfl | rfl | rfl
        · exact ⟨L2.term, by rw [e2p]⟩
        · rw [e2a]; exact ⟨a2, a3⟩
        · rw [e2b]; exact ⟨b2, b3⟩
      · rcases peer_two L.p3 ha hb hap hbp hab hj with rfl | rfl | rfl
        · exact hjp rfl
        · have := a4 hlt hB; cases this
        · have := b4 hlt hB; cases this
    · obtain ⟨r', h1, h2, h3, h4⟩ := yes_step (ms := []) L2 N3 hb hbp
      obtain ⟨g4, _, N4⟩ := Ns.deliver (ms := []) N3 L.p3
      rw [h1, h2] at N4
      have hid : r'.id = p := by have := (N4.inv.node p L.p3).id; rw [up_at] at this; exact this
      rw [all_two hid ho] at h2 N4
      refine Ends.cons (k := 12 * lg.length + 4) (i := p) rfl L.p3 h1 h2 (by simp) ?_
      exact (new_ends h3 N4 h4 ha hb hap hbp hab t2a t2b).mono (Nat.le_refl _) (fun _ h => .inl h)
  · obtain ⟨r', h1, h2, h3, h4⟩ := yes_step (ms := [voteM p b T yb]) L2 N2 ha hap
    obtain ⟨g3, _, N3⟩ := Ns.deliver (ms := [voteM p b T yb]) N2 L.p3
    rw [h1, h2] at N3
    have hid : r'.id = p := by have := (N3.inv.node p L.p3).id; rw [up_at] at this; exact this
    rw [all_two hid ho] at h2 N3
    refine Ends.cons (k := 12 * lg.length + 5) (i := p) rfl L.p3 h1 h2 (by simp) ?_
    obtain ⟨i1, i2⟩ := idle_step (p := p) (j := b) (R := up R2 p r') (y := yb) (.inl (by rw [h3.role]; decide)) h3.term
    obtain ⟨g4, _, N4⟩ := Ns.deliver (m := voteM p b T yb) (ms := [entries r' a, entries r' b]) N3 L.p3
    rw [i1, i2, up_self] at N4
    refine Ends.cons (k := 12 * lg.length + 4) (i := p) rfl L.p3 i1 i2 (by simp) ?_
    rw [up_self]
    exact (new_ends h3 N4 h4 ha hb hap hbp hab t2a t2b).mono (Nat.le_refl _) (fun _ h => .inl h)
end
end M
end Go.Proofs.Ytodmihpmbecncaa
