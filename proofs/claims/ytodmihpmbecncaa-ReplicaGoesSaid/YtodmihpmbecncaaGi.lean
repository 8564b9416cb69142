/-
  The replicas' protocol goes on, part 9: whoever is behind catches up with the others' term. No condition; no program in it.
-/
import Derived.Test.YtodmihpmbecncaaGh
namespace Go.Proofs.Ytodmihpmbecncaa
namespace M

section
variable {p a b h j : Nat} {T X : Int} {lo : Nat → Int} {lg : List Rec} {R : Nat → Rep} {g : Gh} {m : Msg} {ms : List Msg}
theorem first_ask (N : Ns R (askM p j T lg :: ms) g) (hT : (R p).hard.term = T) (hlog : (R p).log = lg) (t1 : 1 ≤ T) (hp : p < 3) (hj : j < 3) (hjp : j ≠ p) :
    ∃ r' v, (hear (R j) (askM p j T lg)).1 = r' ∧ (hear (R j) (askM p j T lg)).2.send = [v] ∧ ((v = noM 1 p j (R j).hard.term ∧ T < (R j).hard.term ∧ r' = R j) ∨ (∃ y, v = voteM p j T y ∧ (R j).hard.term ≤ T ∧ r'.hard.term = T)) := by
  by_cases hle : (R j).hard.term ≤ T
  · obtain ⟨y, h1, h2, _⟩ := ask_step N hT hlog t1 hp hj hjp hle
    exact ⟨_, _, rfl, h1, .inr ⟨y, rfl, hle, h2⟩⟩
  · have hr := ask_right (N.wf p hp) hT hlog t1 hp hjp (N.inv.node j hj).id
    obtain ⟨h1, h2⟩ := high_step (p := p) (T := T) (N.inv.node j hj).id (by omega) rfl rfl (.inl rfl) hr
    exact ⟨_, _, h1, h2, .inl ⟨rfl, by omega, rfl⟩⟩
theorem first_app (L : Lead p T lg R) (N : Ns R (m :: ms) g) (hA : App p T lg R j m) (hj : j < 3) (hjp : j ≠ p) :
    ∃ r' v, (hear (R j) m).1 = r' ∧ (hear (R j) m).2.send = [v] ∧ ((v = noM 3 p j (R j).hard.term ∧ T < (R j).hard.term ∧ r' = R j) ∨ (Rpl p T lg R j v ∧ (R j).hard.term ≤ T ∧ r'.hard.term = T)) := by
  by_cases hle : (R j).hard.term ≤ T
  · obtain ⟨y, h1, h2, h3, _⟩ := app_step L N hA hj hjp hle
    exact ⟨_, _, rfl, h1, .inr ⟨h2, hle, h3⟩⟩
  · have hr := app_right L N.inv (N.wf p L.p3) hA hj hjp (N.inv.node j hj).id
    have hf : m.fr = p ∧ m.term = T ∧ m.kind = 2 := by
      obtain ⟨s, c, _, _, _, _, rfl⟩ := hA
      exact ⟨rfl, rfl, rfl⟩
    obtain ⟨h1, h2⟩ := high_step (p := p) (T := T) (N.inv.node j hj).id (by omega) hf.2.1 hf.1 (.inr hf.2.2) hr
    rw [hf.2.2] at h2
    exact ⟨_, _, h1, h2, .inl ⟨rfl, by omega, rfl⟩⟩
theorem app_out (L : Lead p T lg R) (I : Inv g R) (W : WF (R p)) (hA : App p T lg R j m) (hj : j < 3) (hjp : j ≠ p) : Out2 p T m := by
  refine ⟨j, hj, hjp, ?_, ?_, ?_, ?_, fun r hr => app_right L I W hA hj hjp hr⟩
  all_goals
    obtain ⟨s, c, _, _, _, _, rfl⟩ := hA
    first | rfl | exact .inr rfl
/-- The leader or candidate hears of a greater term. -/
theorem fall_ends {k t : Int} (hh : h < 3) (hhp : h ≠ p) (hp : p < 3) (hX : (R h).hard.term = X) (hlt : T < X) (top : ∀ j, j < 3 → (R j).hard.term ≤ X ∧ lo j ≤ (R j).hard.term) (hT : (R p).hard.term = T)
    (N : Ns R (noM k p j t :: ms) g) (hk : k = 1 ∨ k = 3) (ht : t = (R j).hard.term) (htT : T < t) (hj : j < 3) (hjp : j ≠ p) (t1 : 1 ≤ T) {W : Nat} (hW : W ≤ 90) (hw : wsum p ms ≤ W)
    (hx : ∀ m ∈ ms, Out2 p T m ∨ (m.to = p ∧ m.term ≤ X ∧ (m.kind = 1 ∨ m.kind = 3))) (hH : j = h ∨ ∃ k', (k' = 1 ∨ k' = 3) ∧ noM k' p h X ∈ ms) :
    Ends (W + 1) R (noM k p j t :: ms) (Down p X lo) := by
  have htX : t ≤ X := by rw [ht]; exact (top j hj).1
  have hXM := (N.wf h hh).termM
  rw [hX] at hXM
  have hr : right (R p) (noM k p j t) = true := noM_right hk ⟨by omega, by omega⟩ hj hjp (N.inv.node p hp).id
  obtain ⟨b1, b2, b3⟩ := back_step (r := R p) (m := noM k p j t) hk (.inr (by rw [hT]; exact htT)) hr
  have hmx : max (R p).hard.term (noM k p j t).term = t := by
    show max (R p).hard.term t = t
    omega
  rw [hmx] at b2
  obtain ⟨g', _, N'⟩ := N.deliver hp
  rw [b3, List.append_nil] at N'
  have hlen := wsum_len p ms
  refine Ends.cons (k := W) (i := p) rfl hp rfl b3 (by simp; omega) ?_
  rw [List.append_nil]
  generalize (hear (R p) (noM k p j t)).1 = r' at b1 b2 N' ⊢
  have ej : ∀ k, k ≠ p → up R p r' k = R k := fun k e => up_ne _ _ e
  refine dead_ends W _ _ g' (by omega) ⟨hp, hh, hhp, by rw [up_at]; exact b1, fun k hk' => ?_, by rw [ej h hhp]; exact hX, hlt, hx, ?_⟩ N' hw
  · by_cases e : k = p
    · subst e; rw [up_at, b2]; have := top k hk'; omega
    · rw [ej k e]; exact top k hk'
  · rw [up_at, b2]
    rcases hH with rfl | ⟨k', hk', hm⟩
    · exact .inl (by rw [ht, hX])
    · exact .inr (.inr ⟨_, hm, rfl, rfl, fun r hr' => noM_right hk' ⟨by omega, hXM⟩ hh hhp hr'⟩)

theorem low_cand (L : Cand p T lg R) (ho : others (p : Int) = [(a : Int), (b : Int)]) (ha : a < 3) (hb : b < 3) (hap : a ≠ p) (hbp : b ≠ p) (hab : a ≠ b) (N : Ns R [askM p a T lg, askM p b T lg] g)
    (hh : h < 3) (hhp : h ≠ p) (hX : (R h).hard.term = X) (hlt : T < X) (top : ∀ j, j < 3 → (R j).hard.term ≤ X ∧ lo j ≤ (R j).hard.term) : Ends 40 R [askM p a T lg, askM p b T lg] (Down p X lo) := by
  have t1 := L.t1 N.inv
  obtain ⟨ra, va, a0, a1, a2⟩ := first_ask N L.term L.log t1 L.p3 ha hap
  obtain ⟨g1, _, N1⟩ := N.deliver ha
  rw [a0, a1] at N1
  refine Ends.cons (k := 39) (i := a) rfl ha a0 a1 (by simp) ?_
  have L1 := L.far hap ra
  have eb : up R a ra b = R b := up_ne _ _ (fun e => hab e.symm)
  obtain ⟨rb, vb, b0, b1, b2⟩ := first_ask (ms := [va]) N1 L1.term L1.log t1 L.p3 hb hbp
  obtain ⟨g2, _, N2⟩ := Ns.deliver (ms := [va]) N1 hb
  rw [b0, b1] at N2
  refine Ends.cons (k := 38) (i := b) rfl hb b0 b1 (by simp) ?_
  rw [eb] at b2
  have L2 := L1.far hbp rb
  have e2a : up (up R a ra) b rb a = ra := by rw [up_ne _ _ hab, up_at]
  have e2b : up (up R a ra) b rb b = rb := up_at _ _ _
  have e2p : up (up R a ra) b rb p = R p := by rw [up_ne _ _ (fun e => hbp e.symm), up_ne _ _ (fun e => hap e.symm)]
  generalize up (up R a ra) b rb = R2 at L2 N2 e2a e2b e2p ⊢
  have tra : ra.hard.term = max (R a).hard.term T := by
    rcases a2 with ⟨_, q1, q2⟩ | ⟨_, _, q1, q2⟩
    · rw [q2]; omega
    · omega
  have trb : rb.hard.term = max (R b).hard.term T := by
    rcases b2 with ⟨_, q1, q2⟩ | ⟨_, _, q1, q2⟩
    · rw [q2]; omega
    · omega
  have top2 : ∀ j, j < 3 → (R2 j).hard.term ≤ X ∧ lo j ≤ (R2 j).hard.term := fun j hj => by
    have := top j hj
    rcases peer_two L.p3 ha hb hap hbp hab hj with rfl | rfl | rfl
    · rw [e2p]; exact this
    · rw [e2a, tra]; omega
    · rw [e2b, trb]; omega
  have hX2 : (R2 h).hard.term = X := by
    rcases peer_two L.p3 ha hb hap hbp hab hh with rfl | rfl | rfl
    · exact absurd rfl hhp
    · rw [e2a, tra]; omega
    · rw [e2b, trb]; omega
  show Ends 38 R2 [va, vb] _
  have hvb : (∃ k', (k' = 1 ∨ k' = 3) ∧ vb = noM k' p b (R2 b).hard.term ∧ T < (R2 b).hard.term) ∨ (∃ y, vb = voteM p b T y ∧ (R2 b).hard.term = T) := by
    rw [e2b]
    rcases b2 with ⟨q0, q1, q2⟩ | ⟨y, q0, _, q2⟩
    · exact .inl ⟨1, .inl rfl, by rw [q0, q2], by rw [q2]; exact q1⟩
    · exact .inr ⟨y, q0, q2⟩
  have hxb : vb.to = p ∧ vb.term ≤ X ∧ (vb.kind = 1 ∨ vb.kind = 3) := by
    rcases hvb with ⟨k', q0, rfl, _⟩ | ⟨y, rfl, _⟩
    · exact ⟨rfl, (top2 b hb).1, q0⟩
    · exact ⟨rfl, by show T ≤ X; omega, .inl rfl⟩
  rcases a2 with ⟨q0, q1, q2⟩ | ⟨y, q0, q1, q2⟩
  · -- the first one refuses with a greater term
    rw [q0, ← q2, ← e2a] at N2 ⊢
    refine (fall_ends (W := 1) (ms := [vb]) hh hhp L.p3 hX2 hlt top2 L2.term N2 (.inl rfl) rfl (by rw [e2a, q2]; exact q1) ha hap t1 (by omega) (by rw [wsum_to p _ (by simp [hxb.1])]; simp) (fun m hm => ?_) ?_).mono (by omega) (fun _ h => h)
    · rw [List.mem_singleton] at hm; subst hm; exact .inr hxb
    · by_cases e : a = h
      · exact .inl e
      · have hbh : h = b := by
          rcases peer_two L.p3 ha hb hap hbp hab hh with e' | e' | e'
          · exact absurd e' hhp
          · exact absurd e'.symm e
          · exact e'
        subst hbh
        rcases hvb with ⟨k', s1, s2, _⟩ | ⟨y, _, s2⟩
        · refine .inr ⟨k', s1, ?_⟩
          rw [s2, hX2]; exact List.mem_cons_self
        · omega
  · -- the first one votes: the second one is of the greater term
    have hbh : h = b := by
      rcases peer_two L.p3 ha hb hap hbp hab hh with e' | e' | e'
      · exact absurd e' hhp
      · rw [e'] at hX; exact absurd hX (by omega)
      · exact e'
    subst hbh
    obtain ⟨k', s0, s1, s2⟩ : ∃ k', (k' = 1 ∨ k' = 3) ∧ vb = noM k' p h (R2 h).hard.term ∧ T < (R2 h).hard.term := by
      rcases hvb with q | ⟨y, _, s2⟩
      · exact q
      · omega
    subst q0 s1
    cases y
    · obtain ⟨i1, i2⟩ := idle_step (p := p) (j := a) (R := R2) (y := false) (.inr rfl) L2.term
      obtain ⟨g3, _, N3⟩ := Ns.deliver (m := voteM p a T false) (ms := [noM k' p h (R2 h).hard.term]) N2 L.p3
      rw [i1, i2, up_self] at N3
      refine Ends.cons (k := 37) (i := p) rfl L.p3 i1 i2 (by simp) ?_
      rw [up_self]
      exact (fall_ends (W := 0) (ms := []) hh hhp L.p3 hX2 hlt top2 L2.term N3 s0 rfl s2 hh hhp t1 (by omega) (Nat.le_refl _) (fun m hm => by cases hm) (.inl rfl)).mono (by omega) (fun _ h => h)
    · obtain ⟨r', h1, h2, h3, h4⟩ := yes_step (ms := [noM k' p h (R2 h).hard.term]) L2 N2 ha hap
      obtain ⟨g3, _, N3⟩ := Ns.deliver (m := voteM p a T true) (ms := [noM k' p h (R2 h).hard.term]) N2 L.p3
      rw [h1, h2] at N3
      have hid : r'.id = p := by have := (N3.inv.node p L.p3).id; rw [up_at] at this; exact this
      rw [all_two hid ho] at h2 N3
      refine Ends.cons (k := 37) (i := p) rfl L.p3 h1 h2 (by simp) ?_
      have eh : ∀ k, k ≠ p → up R2 p r' k = R2 k := fun k e => up_ne _ _ e
      have W3 := N3.wf p L.p3
      have Aa := app_of h3 N3.inv W3 ha
      have Ab := app_of h3 N3.inv W3 hb
      rw [up_at] at Aa Ab
      refine (fall_ends (W := 4) (R := up R2 p r') (ms := [entries r' a, entries r' h]) hh hhp L.p3 (by rw [eh h hhp]; exact hX2) hlt (fun k hk => ?_) h3.term N3 s0 (by rw [eh h hhp]) s2 hh hhp t1 (by omega) ?_ (fun m hm => ?_) (.inl rfl)).mono (by omega) (fun _ h => h)
      · by_cases e : k = p
        · subst e
          have := top k hk
          have e3 : (up R2 k r' k).hard.term = T := h3.term
          rw [e3]
          have e4 := L.term
          omega
        · rw [eh k e]; exact top2 k hk
      · unfold wsum
        simp only [List.map_cons, List.map_nil, List.sum_cons, List.sum_nil]
        split <;> split <;> omega
      · simp only [List.mem_cons, List.not_mem_nil, or_false] at hm
        rcases hm with rfl | rfl
        · exact .inl (app_out h3 N3.inv W3 Aa ha hap)
        · exact .inl (app_out h3 N3.inv W3 Ab hb hbp)

theorem low_lead {ma mb : Msg} (L : Lead p T lg R) (ha : a < 3) (hb : b < 3) (hap : a ≠ p) (hbp : b ≠ p) (hab : a ≠ b) (N : Ns R [ma, mb] g) (Aa : App p T lg R a ma) (Ab : App p T lg R b mb)
    (hh : h < 3) (hhp : h ≠ p) (hX : (R h).hard.term = X) (hlt : T < X) (top : ∀ j, j < 3 → (R j).hard.term ≤ X ∧ lo j ≤ (R j).hard.term) : Ends 40 R [ma, mb] (Down p X lo) := by
  have t1 := L.t1 N.inv
  have toa : ma.to = a := by obtain ⟨s, c, _, _, _, _, rfl⟩ := Aa; rfl
  have tob : mb.to = b := by obtain ⟨s, c, _, _, _, _, rfl⟩ := Ab; rfl
  obtain ⟨ra, va, a0, a1, a2⟩ := first_app (ms := [mb]) L N Aa ha hap
  obtain ⟨g1, _, N1⟩ := N.deliver ha
  rw [a0, a1] at N1
  refine Ends.cons (k := 39) (i := a) toa ha a0 a1 (by simp) ?_
  have L1 := L.far hap ra
  have eb : up R a ra b = R b := up_ne _ _ (fun e => hab e.symm)
  obtain ⟨rb, vb, b0, b1, b2⟩ := first_app (ms := [va]) L1 N1 (Ab.far hap ra) hb hbp
  obtain ⟨g2, _, N2⟩ := Ns.deliver (ms := [va]) N1 hb
  rw [b0, b1] at N2
  refine Ends.cons (k := 38) (i := b) tob hb b0 b1 (by simp) ?_
  rw [eb] at b2
  have L2 := L1.far hbp rb
  have e2a : up (up R a ra) b rb a = ra := by rw [up_ne _ _ hab, up_at]
  have e2b : up (up R a ra) b rb b = rb := up_at _ _ _
  have e2p : up (up R a ra) b rb p = R p := by rw [up_ne _ _ (fun e => hbp e.symm), up_ne _ _ (fun e => hap e.symm)]
  have a2' : (va = noM 3 p a (R a).hard.term ∧ T < (R a).hard.term ∧ ra = R a) ∨ (Rpl p T lg (up (up R a ra) b rb) a va ∧ (R a).hard.term ≤ T ∧ ra.hard.term = T) := a2.imp id (fun ⟨q1, q2, q3⟩ => ⟨(q1.far hap ra).far hbp rb, q2, q3⟩)
  have b2' : (vb = noM 3 p b (R b).hard.term ∧ T < (R b).hard.term ∧ rb = R b) ∨ (Rpl p T lg (up (up R a ra) b rb) b vb ∧ (R b).hard.term ≤ T ∧ rb.hard.term = T) := b2.imp id (fun ⟨q1, q2, q3⟩ => ⟨q1.far hbp rb, q2, q3⟩)
  clear a2 b2
  generalize up (up R a ra) b rb = R2 at L2 N2 e2a e2b e2p a2' b2' ⊢
  have tra : ra.hard.term = max (R a).hard.term T := by
    rcases a2' with ⟨_, q1, q2⟩ | ⟨_, q1, q2⟩
    · rw [q2]; omega
    · omega
  have trb : rb.hard.term = max (R b).hard.term T := by
    rcases b2' with ⟨_, q1, q2⟩ | ⟨_, q1, q2⟩
    · rw [q2]; omega
    · omega
  have top2 : ∀ j, j < 3 → (R2 j).hard.term ≤ X ∧ lo j ≤ (R2 j).hard.term := fun j hj => by
    have := top j hj
    rcases peer_two L.p3 ha hb hap hbp hab hj with rfl | rfl | rfl
    · rw [e2p]; exact this
    · rw [e2a, tra]; omega
    · rw [e2b, trb]; omega
  have hX2 : (R2 h).hard.term = X := by
    rcases peer_two L.p3 ha hb hap hbp hab hh with rfl | rfl | rfl
    · exact absurd rfl hhp
    · rw [e2a, tra]; omega
    · rw [e2b, trb]; omega
  show Ends 38 R2 [va, vb] _
  have hvb : (∃ k', (k' = 1 ∨ k' = 3) ∧ vb = noM k' p b (R2 b).hard.term ∧ T < (R2 b).hard.term) ∨ (Rpl p T lg R2 b vb ∧ (R2 b).hard.term = T) := by
    rw [e2b]
    rcases b2' with ⟨q0, q1, q2⟩ | ⟨q0, _, q2⟩
    · exact .inl ⟨3, .inr rfl, by rw [q0, q2], by rw [q2]; exact q1⟩
    · exact .inr ⟨q0, q2⟩
  have hxb : vb.to = p ∧ vb.term ≤ X ∧ (vb.kind = 1 ∨ vb.kind = 3) := by
    rcases hvb with ⟨k', q0, rfl, _⟩ | ⟨q, _⟩
    · exact ⟨rfl, (top2 b hb).1, q0⟩
    · obtain ⟨s, i, y, _, _, rfl, _⟩ := q
      exact ⟨rfl, by show T ≤ X; omega, .inr rfl⟩
  rcases a2' with ⟨q0, q1, q2⟩ | ⟨q0, q1, q2⟩
  · rw [q0, ← q2, ← e2a] at N2 ⊢
    refine (fall_ends (W := 1) (ms := [vb]) hh hhp L.p3 hX2 hlt top2 L2.term N2 (.inr rfl) rfl (by rw [e2a, q2]; exact q1) ha hap t1 (by omega) (by rw [wsum_to p _ (by simp [hxb.1])]; simp) (fun m hm => ?_) ?_).mono (by omega) (fun _ h => h)
    · rw [List.mem_singleton] at hm; subst hm; exact .inr hxb
    · by_cases e : a = h
      · exact .inl e
      · have hbh : h = b := by
          rcases peer_two L.p3 ha hb hap hbp hab hh with e' | e' | e'
          · exact absurd e' hhp
          · exact absurd e'.symm e
          · exact e'
        subst hbh
        rcases hvb with ⟨k', s1, s2, _⟩ | ⟨_, s2⟩
        · refine .inr ⟨k', s1, ?_⟩
          rw [s2, hX2]; exact List.mem_cons_self
        · omega
  · have hbh : h = b := by
      rcases peer_two L.p3 ha hb hap hbp hab hh with e' | e' | e'
      · exact absurd e' hhp
      · rw [e'] at hX; exact absurd hX (by omega)
      · exact e'
    subst hbh
    obtain ⟨k', s0, s1, s2⟩ : ∃ k', (k' = 1 ∨ k' = 3) ∧ vb = noM k' p h (R2 h).hard.term ∧ T < (R2 h).hard.term := by
      rcases hvb with q | ⟨_, s2⟩
      · exact q
      · omega
    subst s1
    have toa2 : va.to = p := by obtain ⟨s, i, y, _, _, rfl, _⟩ := q0; rfl
    obtain ⟨r', h1, h2, h3, _, h5⟩ := rpl_step (ms := [noM k' p h (R2 h).hard.term]) L2 N2 q0 ha hap
    obtain ⟨g3, _, N3⟩ := Ns.deliver (m := va) (ms := [noM k' p h (R2 h).hard.term]) N2 L.p3
    rw [h1] at N3
    have eh : ∀ k, k ≠ p → up R2 p r' k = R2 k := fun k e => up_ne _ _ e
    have top3 : ∀ j, j < 3 → (up R2 p r' j).hard.term ≤ X ∧ lo j ≤ (up R2 p r' j).hard.term := fun k hk => by
      by_cases e : k = p
      · subst e
        have := top k hk
        have e3 : (up R2 k r' k).hard.term = T := h2.term
        rw [e3]
        have e4 := L.term
        omega
      · rw [eh k e]; exact top2 k hk
    have W3 := N3.wf p L.p3
    rcases h5 with ⟨m', k1, k2, _⟩ | ⟨k1, _⟩
    · rw [k1] at N3
      refine Ends.cons (k := 37) (i := p) toa2 L.p3 h1 k1 (by simp) ?_
      refine (fall_ends (W := 2) (R := up R2 p r') (ms := [m']) hh hhp L.p3 (by rw [eh h hhp]; exact hX2) hlt top3 h2.term N3 s0 (by rw [eh h hhp]) s2 hh hhp t1 (by omega) ?_ (fun m hm => ?_) (.inl rfl)).mono (by omega) (fun _ h => h)
      · unfold wsum
        simp only [List.map_cons, List.map_nil, List.sum_cons, List.sum_nil]
        split <;> omega
      · rw [List.mem_singleton] at hm
        subst hm
        exact .inl (app_out h2 N3.inv W3 k2 ha hap)
    · rw [k1, List.append_nil] at N3
      refine Ends.cons (k := 37) (i := p) toa2 L.p3 h1 k1 (by simp) ?_
      rw [List.append_nil]
      exact (fall_ends (W := 0) (R := up R2 p r') (ms := []) hh hhp L.p3 (by rw [eh h hhp]; exact hX2) hlt top3 h2.term N3 s0 (by rw [eh h hhp]) s2 hh hhp t1 (by omega) (Nat.le_refl _) (fun m hm => by cases hm) (.inl rfl)).mono (by omega) (fun _ h => h)
end
end M
end Go.Proofs.Ytodmihpmbecncaa
