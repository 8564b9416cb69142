/-
  The replicas' protocol goes on, part 13: the leader ticks once more, and all have committed what it has. No condition; no program in it.
-/
import Derived.Test.YtodmihpmbecncaaGl
namespace Go.Proofs.Ytodmihpmbecncaa
namespace M

section
variable {p j : Nat} {T : Int} {lg : List Rec} {R : Nat → Rep} {g : Gh} {m : Msg} {ms : List Msg}
/-- Whoever has all hears that all is committed. -/
theorem full_step (L : Lead p T lg R) (N : Ns R (m :: ms) g) (hm : m = ⟨2, p, j, T, lg.length, tn lg lg.length, lg.length, false, []⟩) (hA : App p T lg R j m) (hj : j < 3) (hjp : j ≠ p) (hT : (R j).hard.term = T) (hlog : (R j).log = lg) :
    (hear (R j) m).1.log = lg ∧ (hear (R j) m).1.commit = lg.length := by
  have W := N.wf j hj
  have hr := app_right L N.inv (N.wf p L.p3) hA hj hjp (N.inv.node j hj).id
  rw [(hear_deed hr).1]
  subst hm
  have hb : bump (R j) ⟨2, p, j, T, lg.length, tn lg lg.length, lg.length, false, []⟩ = R j := by
    unfold bump
    exact if_neg (by rw [hT]; show ¬ T < T; omega)
  rw [hb]
  have hd : deed (R j) ⟨2, p, j, T, lg.length, tn lg lg.length, lg.length, false, []⟩ = append (R j) ⟨2, p, j, T, lg.length, tn lg lg.length, lg.length, false, []⟩ := by
    unfold deed
    rw [if_neg (show ¬ (2 : Int) = 0 by decide), if_neg (show ¬ (2 : Int) = 1 by decide), if_pos rfl]
  rw [hd]
  have hcN := W.commitN
  rw [hlog] at hcN
  unfold append
  dsimp only
  rw [if_neg (by rw [hT]; omega), if_neg (L.nolead N.inv hj hjp hT), if_neg (by
    rw [hlog]
    rintro (q | q)
    · omega
    · exact q rfl)]
  have ha : agree (R j).log (lg.length : Int) [] = 0 := rfl
  rw [ha, if_neg (by simp)]
  refine ⟨hlog, ?_⟩
  show max (R j).commit (min (lg.length : Int) ((lg.length : Int) + (([] : List Rec).length : Int))) = lg.length
  simp only [List.length_nil]
  omega

theorem last_ends {a b : Nat} {F : Prop} (hF : Fin p T lg F R) (ht : tn lg lg.length = T) (hcm : (R p).commit = lg.length) (hall : ∀ j, j < 3 → (R j).log = lg) (ha : a < 3) (hb : b < 3) (hap : a ≠ p) (hbp : b ≠ p) (hab : a ≠ b)
    (N : Ns R [entries (R p) a, entries (R p) b] g) : Ends 4 R [entries (R p) a, entries (R p) b] (fun R' => (∀ j, j < 3 → (R' j).log = lg ∧ (R' j).commit = lg.length) ∧ Lead p T lg R') := by
  obtain ⟨_, L, hD, _⟩ := hF
  have W := N.wf p L.p3
  have Aa := app_of L N.inv W ha
  have Ab := app_of L N.inv W hb
  have hform : ∀ j, j < 3 → j ≠ p → entries (R p) j = ⟨2, p, j, T, lg.length, tn lg lg.length, lg.length, false, []⟩ := fun j hj hjp => by
    have e : (R p).next.getD (j : Int).toNat 0 - 1 = lg.length := by rw [Int.toNat_natCast, (hD j hj hjp).2.1]; omega
    unfold entries message
    dsimp only
    rw [e, L.term, L.log, (N.inv.node p L.p3).id, hcm, Int.toNat_natCast, List.drop_length]
    rfl
  have hpot : ∀ j, j < 3 → j ≠ p → pot p lg R j = 0 := fun j hj hjp => by
    unfold pot
    rw [(hD j hj hjp).1, (hD j hj hjp).2.1]; omega
  have hC : True → Cm p lg R := fun _ _ _ _ _ => hcm
  obtain ⟨f1, f2⟩ := full_step L N (hform a ha hap) Aa ha hap (hD a ha hap).2.2 (hall a ha)
  obtain ⟨va, a1, a2, a3, _⟩ := app_step L N Aa ha hap (by rw [(hD a ha hap).2.2]; exact Int.le_refl _)
  obtain ⟨g1, _, N1⟩ := N.deliver ha
  rw [a1] at N1
  refine Ends.cons (k := 3) (i := a) (by rw [hform a ha hap]) ha rfl a1 (by simp) ?_
  generalize (hear (R a) (entries (R p) a)).1 = ra at f1 f2 a3 N1 ⊢
  have L1 := L.far hap ra
  have eb : up R a ra b = R b := up_ne _ _ (fun e => hab e.symm)
  obtain ⟨h1, h2⟩ := full_step (ms := [va]) L1 N1 (hform b hb hbp) (Ab.far hap ra) hb hbp (by rw [eb]; exact (hD b hb hbp).2.2) (by rw [eb]; exact hall b hb)
  obtain ⟨vb, b1, b2, b3, _⟩ := app_step (ms := [va]) L1 N1 (Ab.far hap ra) hb hbp (by rw [eb, (hD b hb hbp).2.2]; exact Int.le_refl _)
  obtain ⟨g2, _, N2⟩ := Ns.deliver (ms := [va]) N1 hb
  rw [b1] at N2
  refine Ends.cons (k := 2) (i := b) (by rw [hform b hb hbp]) hb rfl b1 (by simp) ?_
  generalize (hear (up R a ra b) (entries (R p) b)).1 = rb at h1 h2 b3 N2 ⊢
  have L2 := L1.far hbp rb
  have e2a : up (up R a ra) b rb a = ra := by rw [up_ne _ _ hab, up_at]
  have e2b : up (up R a ra) b rb b = rb := up_at _ _ _
  have e2p : up (up R a ra) b rb p = R p := by rw [up_ne _ _ (fun e => hbp e.symm), up_ne _ _ (fun e => hap e.symm)]
  have Ra : Rpl p T lg (up (up R a ra) b rb) a va := (a2.far hap ra).far hbp rb
  have Rb : Rpl p T lg (up (up R a ra) b rb) b vb := b2.far hbp rb
  generalize up (up R a ra) b rb = R2 at L2 N2 e2a e2b e2p Ra Rb ⊢
  show Ends 2 R2 [va, vb] _
  have hp2 : ∀ j, j < 3 → j ≠ p → pot p lg R2 j = 0 := fun j hj hjp => by
    have := hpot j hj hjp
    unfold pot at this ⊢
    rw [e2p]; exact this
  have hC2 : True → Cm p lg R2 := fun _ k hk hkp q => by rw [e2p]; exact hcm
  have Ta : Tk p T lg R2 a va 1 := .inr ⟨Ra, by rw [e2a]; exact a3, by rw [hp2 a ha hap]; rfl⟩
  have Tb : Tk p T lg R2 b vb 1 := .inr ⟨Rb, by rw [e2b]; exact b3, by rw [hp2 b hb hbp]; rfl⟩
  -- the leader hears both
  obtain ⟨i, r', S, k1, k2, k3, k4, k5, k6, k7, k8, k9⟩ := tk_step (F := True) (ms := [vb]) (fun _ => ht) L2 N2 hC2 Ta ha hap
  have hip : i = p := by
    obtain ⟨s, q, y, _, _, e, _⟩ := Ra
    rw [e] at k1
    exact (Int.ofNat.inj k1).symm
  subst hip
  obtain ⟨g3, _, N3⟩ := Ns.deliver (ms := [vb]) N2 k2
  rw [k3, k4] at N3
  rcases k9 with ⟨m', v', _, q1, q2⟩ | ⟨rfl, q1⟩
  · have := q1.pos k5 (N3.wf i k2) ha hap
    omega
  refine Ends.cons (k := 1) k1 k2 k3 k4 (by simp) ?_
  show Ends 1 (up R2 i r') [vb] _
  have N3 : Ns (up R2 i r') [vb] g3 := N3
  have Tb3 := k7 b vb 1 hb (fun e => hab e.symm) hbp Tb
  have Rb3 : Rpl i T lg (up R2 i r') b vb := by
    rcases Tb3 with ⟨q, _⟩ | ⟨q, _⟩
    · obtain ⟨s, q', y, _, _, e, _⟩ := Rb
      obtain ⟨s', c', _, _, _, _, e'⟩ := q
      rw [e] at e'
      have e2 : (3 : Int) = 2 := congrArg Msg.kind e'
      exact absurd e2 (by decide)
    · exact q
  have e3 : ∀ j, j ≠ i → up R2 i r' j = R2 j := fun j e => up_ne _ _ e
  obtain ⟨i2, r2, S2, t1, t2, t3, t4, t5, t6, t7, t8, t9⟩ := tk_step (F := True) (ms := []) (fun _ => ht) k5 N3 k6 Tb3 hb hbp
  have hip2 : i2 = i := by
    obtain ⟨s, q, y, _, _, e, _⟩ := Rb3
    rw [e] at t1
    exact (Int.ofNat.inj t1).symm
  subst hip2
  obtain ⟨g4, _, N4⟩ := Ns.deliver (ms := []) N3 t2
  rw [t3, t4] at N4
  rcases t9 with ⟨m', v', _, q1', q2'⟩ | ⟨rfl, q1'⟩
  · have := q1'.pos t5 (N4.wf i2 t2) hb hbp
    omega
  refine Ends.cons (k := 0) t1 t2 t3 t4 (by simp) (Ends.nil ⟨fun j hj => ?_, t5⟩)
  have e4 : ∀ j, j ≠ i2 → up (up R2 i2 r') i2 r2 j = R2 j := fun j e => by rw [up_ne _ _ e, e3 j e]
  rcases peer_two t2 ha hb hap hbp hab hj with e | rfl | rfl
  · rw [e]
    exact ⟨t5.log, t6 trivial b hb hbp q1'.1⟩
  · rw [e4 j hap, e2a]; exact ⟨f1, f2⟩
  · rw [e4 j hbp, e2b]; exact ⟨h1, h2⟩

/-- The leader's commit number, once all have all. -/
theorem fin_commit (hF : Fin p T lg True R) : (R p).commit = lg.length := by
  obtain ⟨_, L, hD, hC⟩ := hF
  obtain ⟨a, b, ho, ha, hb, hap, hbp, hab⟩ := others_two L.p3
  exact hC trivial a ha hap (hD a ha hap).1
theorem last_ok {c : Int} {z : Cl} (hq : Quiet c z) (hF : Fin p T lg True (Rf z)) (ht : tn lg lg.length = T) (h1 : 1 ≤ lg.length) :
    Quiet (c + 1) (turn z p) ∧ (∀ j, j < 3 → (Rf (turn z p) j).log = lg ∧ (Rf (turn z p) j).commit = lg.length) := by
  have hall := same_log hF ht h1
  have hcm := fin_commit hF
  have L := hF.2.1
  have hp := L.p3
  obtain ⟨a, b, ho, ha, hb, hap, hbp, hab⟩ := others_two hp
  obtain ⟨g, P⟩ := hq.still.pi
  have W := hq.still.wf p hp
  have B := hq.bd.r p hp
  have hid := (P.inv.node p hp).id
  have tb := tick_rb B W
  have htk : tick (Rf z p) = (Rf z p, { noOut with send := all (Rf z p) }) := by unfold tick; rw [if_pos L.role]
  have hsend : (tick (Rf z p)).2.send = [entries (Rf z p) a, entries (Rf z p) b] := by rw [htk]; exact all_two hid ho
  obtain ⟨s1, s2, s3'⟩ := done_still hq.still hp ⟨g, P, tick_good P.inv hp W⟩ (tick_stores _) (tick_wf W) (by rw [hq.sent, hsend]; simp)
  have hB0 := done_bd (hq.bd.mono (c' := c + 1) (by omega)) P hp tb.1 tb.2 (tick_stores _)
  have s3 := s3'.trans (show z.sent ++ (tick (Rf z p)).2.send = _ by rw [hq.sent, List.nil_append, hsend])
  clear s3'
  have e1 : (tick (Rf z p)).1 = Rf z p := by rw [htk]
  rw [show up (Rf z) p (tick (Rf z p)).1 = Rf z by rw [e1, up_self]] at s2
  unfold turn
  generalize done { z with r := z.r.set p (tick (Rf z p)).1 } p (tick (Rf z p)).2 = y at s1 s2 s3 hB0 ⊢
  generalize Rf z = R at *
  obtain ⟨g0, N0⟩ := s1.ns
  rw [s2, s3] at N0
  have hE := last_ends hF ht hcm hall ha hb hap hbp hab N0
  obtain ⟨q1, q2⟩ := ends_quiet (k := 4) (n := 2000) (by omega) s1 hB0 (by rw [s2, s3]; exact hE)
  exact ⟨q1, q2.1⟩
end
end M
end Go.Proofs.Ytodmihpmbecncaa
