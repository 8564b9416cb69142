/-
  The replicas' protocol goes on, part 12: within five turns one leads; what is proposed there is committed by all. No condition; no program in it.
-/
import Derived.Test.YtodmihpmbecncaaGk
namespace Go.Proofs.Ytodmihpmbecncaa
namespace M

def turns : Nat → Cl → Cl
  | 0, x => x
  | n + 1, x => turn (turns n x) (n % 3)
theorem Best.total (a b : List Rec) : Best a b ∨ Best b a := by
  unfold Best; omega
theorem turns_quiet {c : Int} {x : Cl} (hq : Quiet c x) : ∀ n : Nat, c + n ≤ 150 → Quiet (c + n) (turns n x)
  | 0, _ => by simpa [turns] using hq
  | n + 1, h => by
    have := (turn_ok (turns_quiet hq n (by omega)) (by omega) (Nat.mod_lt n (by decide) : n % 3 < 3)).1
    rw [show c + ((n + 1 : Nat) : Int) = c + n + 1 from by omega]
    exact this
theorem turns_five {c : Int} {x : Cl} (hq : Quiet c x) (hc : c ≤ 140) : ∃ n, n < 5 ∧ (Rf (turns (n + 1) x) (n % 3)).role = 2 := by
  refine Decidable.byContradiction fun hno => ?_
  have lost : ∀ n, n < 5 → Lost (n % 3) (Rf (turns n x)) (Rf (turns (n + 1) x)) := fun n hn => by
    rcases (turn_ok (turns_quiet hq n (by omega)) (by omega) (Nat.mod_lt n (by decide) : n % 3 < 3)).2 with ⟨T, lg, hF⟩ | h
    · exact absurd ⟨n, hn, hF.2.1.role⟩ hno
    · exact h
  have l0 : Lost 0 (Rf (turns 0 x)) (Rf (turns 1 x)) := lost 0 (by omega)
  have l1 : Lost 1 (Rf (turns 1 x)) (Rf (turns 2 x)) := lost 1 (by omega)
  have l2 : Lost 2 (Rf (turns 2 x)) (Rf (turns 3 x)) := lost 2 (by omega)
  have l3 : Lost 0 (Rf (turns 3 x)) (Rf (turns 4 x)) := lost 3 (by omega)
  have l4 : Lost 1 (Rf (turns 4 x)) (Rf (turns 5 x)) := lost 4 (by omega)
  clear lost
  generalize Rf (turns 0 x) = R0 at *
  generalize Rf (turns 1 x) = R1 at *
  generalize Rf (turns 2 x) = R2 at *
  generalize Rf (turns 3 x) = R3 at *
  generalize Rf (turns 4 x) = R4 at *
  generalize Rf (turns 5 x) = R5 at *
  have e2 : (R2 0).hard.term = (R2 1).hard.term := by
    rcases l1.old with h | ⟨k, hk, h⟩
    · exact h 0 (by omega)
    · have a1 := (l0.top k hk).1
      have a2 := l1.top 0 (by omega)
      omega
  have e3 : ∀ j, j < 3 → (R3 j).hard.term = (R3 2).hard.term := by
    rcases l2.old with h | ⟨k, hk, h⟩
    · exact h
    · have a1 := (l1.top k hk).1
      have a2 := l2.top 0 (by omega)
      have a3 := l2.top 1 (by omega)
      intro j hj
      have : j = 0 ∨ j = 1 ∨ j = 2 := by omega
      rcases this with rfl | rfl | rfl <;> omega
  obtain ⟨f1, f2⟩ := l3.eq _ e3
  obtain ⟨_, f4⟩ := l4.eq _ (fun j hj => (f1 j hj).1)
  have b1 := f2 1 (by omega) (by omega)
  have b2 := f4 0 (by omega) (by omega)
  rw [(f1 1 (by omega)).2, (f1 0 (by omega)).2] at b2
  rcases Best.total (R3 0).log (R3 1).log with h | h
  · exact b1 h
  · exact b2 h
/-- Who leads after a turn leads to the end. -/
theorem turn_fin {c : Int} {x : Cl} {p : Nat} (hq : Quiet c x) (hc : c ≤ 150) (hp : p < 3) (hr : (Rf (turn x p) p).role = 2) : ∃ T lg, Fin p T lg False (Rf (turn x p)) := by
  rcases (turn_ok hq hc hp).2 with h | h
  · exact h
  · exact absurd hr h.role

section
variable {p : Nat} {T : Int} {lg : List Rec}
theorem propose_ok {c : Int} {y : Cl} {d : ByteArray} (hq : Quiet c y) (hc : c ≤ 150) (hF : Fin p T lg False (Rf y)) (hd : d.size ≤ 2000) :
    (propose (Rf y p) d).2.1 = lg.length + 1 ∧ (propose (Rf y p) d).2.2.1 = 0 ∧
      Quiet (c + 1) (flow 2000 (done { y with r := y.r.set p (propose (Rf y p) d).1 } p (propose (Rf y p) d).2.2.2)) ∧
      Fin p T (lg ++ [⟨T, d⟩]) True (Rf (flow 2000 (done { y with r := y.r.set p (propose (Rf y p) d).1 } p (propose (Rf y p) d).2.2.2))) := by
  obtain ⟨⟨g1, N1⟩, L, hD, _⟩ := hF
  have hp := L.p3
  obtain ⟨a, b, ho, ha, hb, hap, hbp, hab⟩ := others_two hp
  obtain ⟨g, P⟩ := hq.still.pi
  have W := hq.still.wf p hp
  have B := hq.bd.r p hp
  have hid := (P.inv.node p hp).id
  have hlt := pinv_lt P hq.still.wf p hp
  have hl := B.log
  rw [L.log] at hl
  have tb := propose_rb B W d hlt
  have hpr : propose (Rf y p) d = ({ Rf y p with log := lg ++ [(⟨T, d⟩ : Rec)] }, (lg.length : Int) + 1, (0 : Int), { noOut with fr := ((lg ++ [(⟨T, d⟩ : Rec)]).length : Int), recs := [(⟨T, d⟩ : Rec)], send := all { Rf y p with log := lg ++ [(⟨T, d⟩ : Rec)] } }) := by
    unfold propose
    rw [if_neg (by rw [L.role]; decide), if_neg (by omega), if_neg (by rw [L.log]; omega)]
    dsimp only
    rw [L.log, L.term]
    simp
  have hall : all { Rf y p with log := lg ++ [(⟨T, d⟩ : Rec)] } = [entries { Rf y p with log := lg ++ [(⟨T, d⟩ : Rec)] } a, entries { Rf y p with log := lg ++ [(⟨T, d⟩ : Rec)] } b] := all_two hid ho
  have hsend : (propose (Rf y p) d).2.2.2.send = [entries { Rf y p with log := lg ++ [(⟨T, d⟩ : Rec)] } a, entries { Rf y p with log := lg ++ [(⟨T, d⟩ : Rec)] } b] := by rw [hpr]; exact hall
  obtain ⟨s1, s2, s3'⟩ := done_still hq.still hp ⟨g, P, propose_good P.inv hp W d hlt⟩ (propose_stores _ _) tb.2.2 (by rw [hq.sent, hsend]; simp)
  have hB0 := done_bd (hq.bd.mono (c' := c + 1) (by omega)) P hp tb.1 tb.2.1 (propose_stores _ _)
  have s3 := s3'.trans (show y.sent ++ (propose (Rf y p) d).2.2.2.send = _ by rw [hq.sent, List.nil_append, hsend])
  clear s3'
  refine ⟨by rw [hpr], by rw [hpr], ?_⟩
  generalize done { y with r := y.r.set p (propose (Rf y p) d).1 } p (propose (Rf y p) d).2.2.2 = z at s1 s2 s3 hB0 ⊢
  have e1 : (propose (Rf y p) d).1 = { Rf y p with log := lg ++ [⟨T, d⟩] } := by rw [hpr]
  rw [e1] at s2
  generalize hr1 : ({ Rf y p with log := lg ++ [⟨T, d⟩] } : Rep) = r1 at s2 s3
  generalize Rf y = R at *
  obtain ⟨g0, N0⟩ := s1.ns
  rw [s2, s3] at N0
  have ej : ∀ j, j ≠ p → up R p r1 j = R j := fun j e => up_ne _ _ e
  have L' : Lead p T (lg ++ [⟨T, d⟩]) (up R p r1) := ⟨hp, by rw [up_at, ← hr1]; exact L.role, by rw [up_at, ← hr1]; exact L.term, by rw [up_at, ← hr1], fun j hj hjp => by rw [up_at, ← hr1]; exact L.nm j hj hjp⟩
  have Aa := app_of L' N0.inv (N0.wf p hp) ha
  have Ab := app_of L' N0.inv (N0.wf p hp) hb
  rw [up_at] at Aa Ab
  have hpot : ∀ j, j < 3 → j ≠ p → pot p (lg ++ [⟨T, d⟩]) (up R p r1) j = 4 := fun j hj hjp => by
    obtain ⟨q1, q2, _⟩ := hD j hj hjp
    unfold pot
    rw [up_at, ← hr1]
    show 4 * (((lg ++ [(⟨T, d⟩ : Rec)]).length : Int) - (R p).mtch.getD j 0) + 2 * ((R p).next.getD j 0 - 1 - (R p).mtch.getD j 0) = 4
    rw [q1, q2]
    simp only [List.length_append, List.length_cons, List.length_nil]; omega
  have hE := lead_ends (F := True) (p := p) (T := T) (lg := lg ++ [⟨T, d⟩]) (fun _ => by
    have : (lg ++ [(⟨T, d⟩ : Rec)]).length = lg.length + 1 := by simp
    rw [this, tn_snoc]) 12 a b (up R p r1) _ g0 ha hb hap hbp hab L' N0 (fun _ k hk hkp q => by
      rw [up_at, ← hr1] at q
      have q : (R p).mtch.getD k 0 = ((lg ++ [(⟨T, d⟩ : Rec)]).length : Int) := q
      rw [(hD k hk hkp).1] at q
      simp only [List.length_append, List.length_cons, List.length_nil] at q; omega)
    (.inl ⟨_, _, _, _, rfl, .inl ⟨Aa, by rw [ej a hap, (hD a ha hap).2.2]; exact Int.le_refl _, rfl⟩, .inl ⟨Ab, by rw [ej b hbp, (hD b hb hbp).2.2]; exact Int.le_refl _, rfl⟩, by rw [hpot a ha hap, hpot b hb hbp]; decide⟩)
  exact ends_quiet (k := 12) (n := 2000) (by omega) s1 hB0 (by rw [s2, s3]; exact hE)

/-- All have the leader's log. -/
theorem same_log {R : Nat → Rep} {F : Prop} (hF : Fin p T lg F R) (ht : tn lg lg.length = T) (h1 : 1 ≤ lg.length) : ∀ j, j < 3 → (R j).log = lg := by
  obtain ⟨⟨g, N⟩, L, hD, _⟩ := hF
  intro j hj
  by_cases e : j = p
  · subst e; exact L.log
  obtain ⟨d1, d2, d3⟩ := hD j hj e
  have hA := L.agree N.inv hj e d3
  rw [d1, Int.toNat_natCast] at hA
  have Nd := N.inv.node j hj
  have hlen : (R j).log.length = lg.length := by
    refine Decidable.byContradiction fun hne => ?_
    have hle := hA.2.1
    have hs := Nd.srt lg.length (lg.length + 1) h1 (by omega) (by omega)
    rw [← hA.tn (p := lg.length) (Nat.le_refl _), ht, d3] at hs
    have hT : tn (R j).log (lg.length + 1) = T := by omega
    have := (Nd.gl (lg.length + 1) (by omega) (by omega)).2
    rw [hT, (L.el N.inv).2] at this
    have := this.2.1
    omega
  have := hA.2.2
  rw [List.take_length, ← hlen, List.take_length] at this
  exact this.symm
end
end M
end Go.Proofs.Ytodmihpmbecncaa
