/-
  Safety of the replicas' protocol, part 3: a tick, a message and a proposal keep the invariant; what is sent is right. No condition; no program in it.
-/
import Derived.Test.YtodmihpmbecncaaPm
namespace Go.Proofs.Ytodmihpmbecncaa
namespace M

theorem gl_match {g : Gh} {a b : List Rec} (ha : GL g a) (hb : GL g b) (p : Nat) (h1 : 1 ≤ p) (h2 : p ≤ a.length) (h3 : p ≤ b.length) (h : tn a p = tn b p) : Ag a b p := by
  have x := (ha p h1 h2).2
  have y := (hb p h1 h3).2
  rw [h] at x
  exact x.trans y.symm

theorem agree_ag {log E : List Rec} (hM : ∀ p, 1 ≤ p → p ≤ log.length → p ≤ E.length → tn log p = tn E p → Ag log E p) :
    ∀ (L p : Nat), p + L ≤ E.length → Ag log E p → Ag log E (p + agree log p ((E.drop p).take L)) ∧ (agree log p ((E.drop p).take L) < L → ¬ Ag log E (p + agree log p ((E.drop p).take L) + 1))
  | 0, p, _, h => by simpa [agree] using h
  | L + 1, p, hL, h => by
    have hp : p < E.length := by omega
    rw [List.drop_eq_getElem_cons hp, List.take_succ_cons, agree_cons]
    have hE : tn E (p + 1) = (E[p]).term := by
      rw [tn_succ, List.getD_eq_getElem?_getD, List.getElem?_eq_getElem hp]; rfl
    have hl : tm log ((p : Int) + 1) = tn log (p + 1) := rfl
    split
    · rename_i hc
      have hg := hM (p + 1) (by omega) (by omega) hp (by rw [hE, ← hl]; exact hc.2)
      have ih := agree_ag hM L (p + 1) (by omega) hg
      have e : ((p : Int) + 1) = ((p + 1 : Nat) : Int) := by omega
      rw [e]
      generalize agree log ((p + 1 : Nat) : Int) ((E.drop (p + 1)).take L) = k at ih ⊢
      rw [show p + (k + 1) = p + 1 + k from by omega]
      exact ⟨ih.1, fun h => ih.2 (by omega)⟩
    · rename_i hc
      refine ⟨h, fun _ hA => hc ⟨by have := hA.1; omega, ?_⟩⟩
      rw [hl, ← hE]
      exact hA.tn (Nat.le_refl _)

/-- What a replica takes over is the leader's. -/
theorem take_over {log E recs : List Rec} {p k : Nat} (hR : recs = (E.drop p).take recs.length) (hk : k ≤ recs.length) (hA : Ag log E (p + k)) :
    log.take (p + k) ++ recs.drop k = E.take (p + recs.length) := by
  have e1 : recs.drop k = (E.drop (p + k)).take (recs.length - k) := by
    conv => lhs; rw [hR]
    rw [List.drop_take, List.drop_drop]
  rw [e1, hA.2.2]
  have := List.take_append_drop (p + k) (E.take (p + recs.length))
  rw [List.take_take, List.drop_take, Nat.min_eq_left (by omega)] at this
  rw [← this]
  congr 2
  omega

theorem entries_msg {g : Gh} {i : Nat} {r : Rep} (N : NodeOk g i r) (hr : r.role = 2) {to : Int} (h1 : 1 ≤ r.next.getD to.toNat 0) (h2 : r.next.getD to.toNat 0 ≤ r.log.length + 1) : MsgOk g (entries r to) := by
  obtain ⟨l1, l2, _⟩ := N.lead hr
  obtain ⟨p, hp⟩ := Int.eq_ofNat_of_zero_le (show 0 ≤ r.next.getD to.toNat 0 - 1 by omega)
  have hpl : p ≤ r.log.length := by omega
  have hre : (entries r to).recs = (r.log.drop p).take 8 := by show (r.log.drop (r.next.getD to.toNat 0 - 1).toNat).take 8 = _; rw [hp]; rfl
  refine ⟨fun (e : (2 : Int) = 0) => absurd e (by decide), fun (e : (2 : Int) = 1) => absurd e (by decide), fun _ => ⟨i, p, N.id, hp, l1, ?_, ?_, ?_, ?_⟩, fun (e : (2 : Int) = 3) => absurd e (by decide)⟩
  · show p + _ ≤ (g.el r.hard.term).length
    rw [hre, l2, List.length_take, List.length_drop]; omega
  · show _ = ((g.el r.hard.term).drop p).take _
    rw [hre, l2, List.length_take, Nat.min_def]
    split
    · rfl
    · rename_i hc
      rw [List.take_of_length_le (by omega), List.take_of_length_le (Nat.le_refl _)]
  · show tm r.log (r.next.getD to.toNat 0 - 1) = tn (g.el r.hard.term) p
    rw [hp, l2]; rfl
  · show r.commit = 0 ∨ ∃ T0 n, Ch g T0 n ∧ T0 ≤ r.hard.term ∧ r.commit ≤ n
    exact N.cm.imp (fun h => h) fun ⟨T0, n, q1, q2, q3, _⟩ => ⟨T0, n, q1, q2, q3⟩

theorem others_range (i : Nat) (hi : i < 3) : ∀ j ∈ others (i : Int), 0 ≤ j ∧ j < 3 := by
  have : i = 0 ∨ i = 1 ∨ i = 2 := by omega
  rcases this with rfl | rfl | rfl <;> intro j hj <;> simp [others] at hj <;> omega

theorem all_msg {g : Gh} {i : Nat} {r : Rep} (hi : i < 3) (N : NodeOk g i r) (W : WF r) (hr : r.role = 2) : ∀ m ∈ all r, MsgOk g m := by
  intro m hm
  unfold all at hm
  obtain ⟨j, hj, rfl⟩ := List.mem_map.1 hm
  rw [N.id] at hj
  have := others_range i hi j hj
  have hn := W.nexts hr j.toNat (by omega)
  exact entries_msg N hr hn.1 hn.2

/-- A message that says no, or one of no weight. -/
theorem no_msg {g : Gh} {m : Msg} (hk : m.kind = 1 ∨ m.kind = 3) (hy : m.yes = false) : MsgOk g m :=
  ⟨fun e => by omega, fun _ h => (by rw [hy] at h; cases h), fun e => by omega, fun _ h => (by rw [hy] at h; cases h)⟩

/-- What a call of replica i leaves. -/
def Good (g : Gh) (R : Nat → Rep) (i : Nat) (r' : Rep) (o : Out) : Prop := ∃ g', Ext g g' ∧ Inv g' (up R i r') ∧ ∀ m ∈ o.send, MsgOk g' m
theorem Good.none {g : Gh} {R : Nat → Rep} {i : Nat} {r' : Rep} {o : Out} (h : Inv g (up R i r')) (ho : o.send = []) : Good g R i r' o := ⟨g, Ext.refl g, h, by rw [ho]; intro m hm; cases hm⟩
theorem Good.one {g : Gh} {R : Nat → Rep} {i : Nat} {r' : Rep} {m : Msg} (h : Inv g (up R i r')) (hm : MsgOk g m) : Good g R i r' (answer m) := by
  refine ⟨g, Ext.refl g, h, fun m' hm' => ?_⟩
  simp only [answer, List.mem_singleton] at hm'
  subst hm'
  exact hm
theorem up_self (R : Nat → Rep) (i : Nat) : up R i (R i) = R := by
  funext v
  by_cases e : v = i
  · subst e; exact up_at _ _ _
  · exact up_ne _ _ e
theorem up_up (R : Nat → Rep) (i : Nat) (a b : Rep) : up (up R i a) i b = up R i b := by
  funext v
  by_cases e : v = i
  · subst e; rw [up_at, up_at]
  · rw [up_ne _ _ e, up_ne _ _ e, up_ne _ _ e]
theorem Good.self {g : Gh} {R : Nat → Rep} {i : Nat} {o : Out} (h : Inv g R) (ho : o.send = []) : Good g R i (R i) o := Good.none (by rw [up_self]; exact h) ho

section
variable {g : Gh} {R : Nat → Rep} {i : Nat} (I : Inv g R) (hi : i < 3) (W : WF (R i))
include I hi W

theorem tick_good : Good g R i (tick (R i)).1 (tick (R i)).2 := by
  have N := I.node i hi
  unfold tick
  split
  · rename_i hr
    exact ⟨g, Ext.refl g, by rw [up_self]; exact I, all_msg hi N W hr⟩
  · split
    · exact Good.self I rfl
    · obtain ⟨g', E, I', v1, c1⟩ := inv_ask I hi W.term0
      refine ⟨g', E, I', ?_⟩
      intro m hm
      obtain ⟨j, hj, rfl⟩ := List.mem_map.1 hm
      refine ⟨fun _ => ⟨i, N.id, hi, v1, ?_, ?_⟩, fun (e : (0 : Int) = 1) => absurd e (by decide), fun (e : (0 : Int) = 2) => absurd e (by decide), fun (e : (0 : Int) = 3) => absurd e (by decide)⟩
      · show ((R i).log.length : Int) = (g'.cl i ((R i).hard.term + 1)).length
        rw [c1]
      · show tm (R i).log (R i).log.length = tn (g'.cl i ((R i).hard.term + 1)) (g'.cl i ((R i).hard.term + 1)).length
        rw [c1]; rfl

omit W in
theorem vote_good {m : Msg} (hm : MsgOk g m) (hk : m.kind = 0) (hf : m.fr ≠ i) : Good g R i (vote (R i) m).1 (vote (R i) m).2 := by
  have N := I.node i hi
  unfold vote
  obtain ⟨c, k1, k2, k3, k4, k5⟩ := hm.k0 hk
  split
  · rename_i hc
    obtain ⟨h1, h2, h3⟩ := hc
    rw [h1] at k3 k4 k5
    have hfr : tn (R i).log (R i).log.length < tn (g.cl c (R i).hard.term) (g.cl c (R i).hard.term).length ∨
      (tn (g.cl c (R i).hard.term) (g.cl c (R i).hard.term).length = tn (R i).log (R i).log.length ∧ (R i).log.length ≤ (g.cl c (R i).hard.term).length) := by
      unfold fresh at h3
      simp only [Bool.or_eq_true, Bool.and_eq_true, decide_eq_true_eq] at h3
      rw [k5, k4] at h3
      refine h3.imp (fun h => h) fun h => ⟨h.1, by omega⟩
    obtain ⟨g', E, I', v1⟩ := inv_vote I hi (c := c) (by omega) k2 k3 (by rw [k1] at h2; exact h2) hfr
    rw [k1]
    refine ⟨g', E, I', ?_⟩
    intro m' hm'
    simp only [answer, List.mem_singleton] at hm'
    subst hm'
    exact ⟨fun (e : (1 : Int) = 0) => absurd e (by decide), fun _ _ => ⟨i, N.id, hi, Int.natCast_nonneg _, v1⟩, fun (e : (1 : Int) = 2) => absurd e (by decide), fun (e : (1 : Int) = 3) => absurd e (by decide)⟩
  · exact Good.one (by rw [up_self]; exact I) (no_msg (.inl rfl) rfl)

omit W in
theorem voted_good {m : Msg} (hm : MsgOk g m) (hk : m.kind = 1) (hto : m.to = i) : Good g R i (voted (R i) m).1 (voted (R i) m).2 := by
  have N := I.node i hi
  unfold voted
  split
  · exact Good.self I rfl
  · rename_i hc
    have hr : (R i).role = 1 := Decidable.byContradiction fun h => hc (.inl h)
    have ht : m.term = (R i).hard.term := Decidable.byContradiction fun h => hc (.inr (.inl h))
    have hy : m.yes = true := by
      cases h : m.yes
      · exact absurd (.inr (.inr h)) hc
      · rfl
    obtain ⟨c, k1, k2, k3, k4⟩ := hm.k1 hk hy
    rw [ht, hto] at k4
    have I1 := inv_count I hi hr k4
    rw [k1, Int.toNat_natCast]
    simp only
    split
    · exact Good.none I1 rfl
    · rename_i hn
      have hr1 : (up R i { R i with votes := (R i).votes.set c true } i).role = 1 := by rw [up_at]; exact hr
      obtain ⟨g', E, I'⟩ := inv_lead I1 hi hr1 (by rw [up_at]; show 2 ≤ count ((R i).votes.set c true); omega) [((R i).log.length : Int) + 1, ((R i).log.length : Int) + 1, ((R i).log.length : Int) + 1]
      rw [up_up, up_at] at I'
      refine ⟨g', E, I', ?_⟩
      have N' := I'.node i hi
      rw [up_at] at N'
      intro m' hm'
      change m' ∈ all _ at hm'
      unfold all at hm'
      obtain ⟨j, hj, rfl⟩ := List.mem_map.1 hm'
      change j ∈ others (R i).id at hj
      rw [N.id] at hj
      have hj3 := others_range i hi j hj
      have hgd : ([((R i).log.length : Int) + 1, ((R i).log.length : Int) + 1, ((R i).log.length : Int) + 1] : List Int).getD j.toNat 0 = (R i).log.length + 1 := by
        have : j.toNat = 0 ∨ j.toNat = 1 ∨ j.toNat = 2 := by omega
        rcases this with h | h | h <;> rw [h] <;> rfl
      refine entries_msg N' rfl ?_ ?_
      · show 1 ≤ List.getD _ _ _; rw [hgd]; omega
      · show List.getD _ _ _ ≤ _; rw [hgd]; exact Int.le_refl _

theorem append_good {m : Msg} (hm : MsgOk g m) (hk : m.kind = 2) (hf : m.fr ≠ i) (hle : m.term ≤ (R i).hard.term) : Good g R i (append (R i) m).1 (append (R i) m).2 := by
  have N := I.node i hi
  have G := I.gi
  unfold append
  simp only
  split
  · exact Good.one (by rw [up_self]; exact I) (no_msg (.inr rfl) rfl)
  · rename_i h1
    split
    · exact Good.self I rfl
    · rename_i h2
      have ht : m.term = (R i).hard.term := by omega
      obtain ⟨c, p, k1, k2, k3, k4, k5, k6, k7⟩ := hm.k2 hk
      rw [ht] at k3 k4 k5 k6 k7
      have hcne : c ≠ i := fun e => hf (by rw [k1, e])
      have hr0 : NodeOk g i { R i with role := 0 } := { N with lead := fun (e : (0 : Int) = 2) => absurd e (by decide), ask := fun (e : (0 : Int) = 1) => absurd e (by decide) }
      have I0 := inv_same I hr0
      rw [k2]
      split
      · exact Good.one I0 (no_msg (.inr rfl) rfl)
      · rename_i h3
        have h4 : p ≤ (R i).log.length := by omega
        have h5 : tn (R i).log p = m.prev := Decidable.byContradiction fun h => h3 (.inr h)
        have hM : ∀ q, 1 ≤ q → q ≤ (R i).log.length → q ≤ (g.el (R i).hard.term).length → tn (R i).log q = tn (g.el (R i).hard.term) q → Ag (R i).log (g.el (R i).hard.term) q :=
          fun q => gl_match N.gl (G.elg _) q
        have hA0 : Ag (R i).log (g.el (R i).hard.term) p := by
          rcases Nat.eq_zero_or_pos p with rfl | hp
          · exact Ag.zero _ _
          · exact hM p hp h4 (by omega) (by rw [h5, k6])
        obtain ⟨hA, hB⟩ := agree_ag hM m.recs.length p k4 hA0
        rw [← k5] at hA hB
        have hkl := agree_le (R i).log p m.recs
        generalize agree (R i).log (p : Int) m.recs = k at hA hB hkl ⊢
        have hcN := W.commitN
        have hc0 := W.commit0
        have hcm : ∀ com', com' = max (R i).commit (min m.commit ((p : Int) + m.recs.length)) → com' = (R i).commit ∨ (0 ≤ com' ∧ com' ≤ (p + m.recs.length : Nat) ∧ ∃ T0 n, Ch g T0 n ∧ T0 ≤ (R i).hard.term ∧ com' ≤ n) := by
          rintro com' rfl
          by_cases h : max (R i).commit (min m.commit ((p : Int) + m.recs.length)) = (R i).commit
          · exact .inl h
          · right
            rcases k7 with h7 | ⟨T0, n, q1, q2, q3⟩
            · exfalso; omega
            · exact ⟨by omega, by omega, T0, n, q1, q2, by omega⟩
        split
        · rename_i hlt
          split
          · exact Good.none I0 rfl
          · rename_i hci
            have hlog : (R i).log.take ((p : Int) + (k : Int) + 1 - 1).toNat ++ m.recs.drop k = (g.el (R i).hard.term).take (p + m.recs.length) := by
              rw [show ((p : Int) + (k : Int) + 1 - 1).toNat = p + k from by omega]
              exact take_over k5 (by omega) hA
            rw [hlog]
            have hAE : Ag (g.el (R i).hard.term) ((g.el (R i).hard.term).take (p + m.recs.length)) (p + m.recs.length) := (Ag.refl k4).take (Nat.le_refl _)
            have hK : ∀ n, Ag (g.el (R i).hard.term) (R i).log n → Ag (g.el (R i).hard.term) ((g.el (R i).hard.term).take (p + m.recs.length)) n := fun n h => by
              rcases Nat.lt_or_ge (p + k) n with h' | h'
              · exact absurd (h.symm.mono h') (hB hlt)
              · exact hAE.mono (by omega)
            obtain ⟨g', E, I', hak⟩ := inv_accept I hi k3 hcne k4 hAE hK ((hA.mono (m := (R i).commit.toNat) (by omega)).take (by omega)) (fun q q1 q2 => by
                rw [List.length_take] at q2
                have e := hAE.tn (p := q) (by omega)
                rw [← e]
                have := G.elg (R i).hard.term q q1 (by omega)
                exact ⟨this.1, (hAE.symm.mono (by omega)).trans this.2⟩) ((G.els _).take _) (hcm _ rfl)
            refine ⟨g', E, I', ?_⟩
            intro m' hm'
            simp only [List.mem_singleton] at hm'
            subst hm'
            exact ⟨fun (e : (3 : Int) = 0) => absurd e (by decide), fun (e : (3 : Int) = 1) => absurd e (by decide), fun (e : (3 : Int) = 2) => absurd e (by decide), fun _ _ => ⟨i, p + m.recs.length, N.id, hi, by show (p : Int) + m.recs.length = _; omega, hak⟩⟩
        · rename_i hlt
          obtain rfl : k = m.recs.length := by omega
          obtain ⟨g', E, I', hak⟩ := inv_accept I hi k3 hcne k4 hA.symm (fun n h => h) (Ag.refl (by omega)) N.gl N.srt (hcm _ rfl)
          refine ⟨g', E, I', ?_⟩
          intro m' hm'
          simp only [answer, List.mem_singleton] at hm'
          subst hm'
          exact ⟨fun (e : (3 : Int) = 0) => absurd e (by decide), fun (e : (3 : Int) = 1) => absurd e (by decide), fun (e : (3 : Int) = 2) => absurd e (by decide), fun _ _ => ⟨i, p + m.recs.length, N.id, hi, by show (p : Int) + m.recs.length = _; omega, hak⟩⟩

omit I hi W in
theorem advance_same (r : Rep) : (advance r).log = r.log ∧ (advance r).next = r.next ∧ (advance r).role = r.role ∧ (advance r).hard = r.hard ∧ (advance r).id = r.id := by
  unfold advance
  simp only
  split <;> exact ⟨rfl, rfl, rfl, rfl, rfl⟩

/-- Indexes within the log, while the replica leads. -/
def Nx (r : Rep) : Prop := r.role = 2 → ∀ j : Nat, j < 3 → 1 ≤ r.next.getD j 0 ∧ r.next.getD j 0 ≤ r.log.length + 1

theorem appended_good {m : Msg} (hm : MsgOk g m) (hk : m.kind = 3) (hf : m.fr ≠ i) (hf0 : 0 ≤ m.fr) (hf3 : m.fr < 3) (hi0 : 0 ≤ m.index) : Good g R i (appended (R i) m).1 (appended (R i) m).2 := by
  have N := I.node i hi
  have G := I.gi
  unfold appended
  split
  · exact Good.self I rfl
  · rename_i hc
    have hr : (R i).role = 2 := Decidable.byContradiction fun h => hc (.inl h)
    have ht : m.term = (R i).hard.term := Decidable.byContradiction fun h => hc (.inr (.inl h))
    obtain ⟨c, hcf⟩ := Int.eq_ofNat_of_zero_le hf0
    have hnx := W.nexts hr
    have hmx := W.mtchs hr c (by omega)
    simp only [hcf, Int.toNat_natCast]
    have hnxt : ∀ (nx : List Int) (x : Int), nx.length = 3 → (nx.set c x).getD c 0 = x := fun nx x h => by
      rw [List.getD_eq_getElem?_getD, List.getElem?_set, if_pos rfl, if_pos (by omega)]; rfl
    split
    · have hn : NodeOk g i { R i with next := (R i).next.set c (max ((R i).mtch.getD c 0 + 1) (min ((R i).next.getD c 0 - 1) (m.index + 1))) } := { N with }
      refine Good.one (inv_same I hn) (entries_msg hn hr ?_ ?_)
      · show 1 ≤ ((R i).next.set c _).getD ((c : Int).toNat) 0
        rw [Int.toNat_natCast, hnxt _ _ W.nextN]; omega
      · show ((R i).next.set c _).getD ((c : Int).toNat) 0 ≤ (R i).log.length + 1
        rw [Int.toNat_natCast, hnxt _ _ W.nextN]
        have := hnx c (by omega)
        omega
    · rename_i hy
      have hy : m.yes = true := by cases h : m.yes <;> simp_all
      obtain ⟨c', p, k1, k2, k3, k4⟩ := hm.k3 hk hy
      obtain rfl : c' = c := by omega
      have hold := (N.lead hr).2.2 c' (by omega) (by omega)
      have hX : max ((R i).mtch.getD c' 0) m.index ≤ g.ak c' (R i).hard.term := by rw [← ht] at hold ⊢; omega
      have I1 := inv_ack I hi hr k2 (fun e => hf (by rw [hcf, e])) hX ((R i).next.set c' (max ((R i).mtch.getD c' 0) m.index + 1))
      have N1 := I1.node i hi
      rw [up_at] at N1
      obtain ⟨e1, e2, e3, e4, e5⟩ := advance_same { R i with mtch := (R i).mtch.set c' (max ((R i).mtch.getD c' 0) m.index), next := (R i).next.set c' (max ((R i).mtch.getD c' 0) m.index + 1) }
      split
      · rename_i hle
        refine Good.one I1 (entries_msg N1 (e3.trans hr) ?_ ?_)
        · rw [e2, Int.toNat_natCast]
          show 1 ≤ ((R i).next.set c' _).getD c' 0
          rw [hnxt _ _ W.nextN]; omega
        · rw [e2, Int.toNat_natCast]
          show ((R i).next.set c' _).getD c' 0 ≤ _
          rw [hnxt _ _ W.nextN]
          rw [e1] at hle ⊢
          exact Int.le_trans hle (by show ((R i).log.length : Int) ≤ (R i).log.length + 1; omega)
      · exact Good.none I1 rfl
end

section
variable {g : Gh} {R : Nat → Rep} {i : Nat} (I : Inv g R) (hi : i < 3) (W : WF (R i))
include I hi W

theorem propose_good (data : ByteArray) (ht : LT (R i)) : Good g R i (propose (R i) data).1 (propose (R i) data).2.2.2 := by
  have N := I.node i hi
  unfold propose
  split
  · exact Good.self I rfl
  rename_i hr
  have hr : (R i).role = 2 := Decidable.byContradiction hr
  split
  · exact Good.self I rfl
  split
  · exact Good.self I rfl
  obtain ⟨g', E, I'⟩ := inv_propose I hi (x := ⟨(R i).hard.term, data⟩) hr rfl (ht (by omega))
  refine ⟨g', E, I', ?_⟩
  have N' := I'.node i hi
  rw [up_at] at N'
  intro m hm
  obtain ⟨j, hj, rfl⟩ := List.mem_map.1 hm
  change j ∈ others (R i).id at hj
  rw [N.id] at hj
  have hj3 := others_range i hi j hj
  have := W.nexts hr j.toNat (by omega)
  refine entries_msg N' hr this.1 ?_
  show _ ≤ (((R i).log ++ [_]).length : Int) + 1
  simp only [List.length_append, List.length_cons, List.length_nil]
  have h2 := this.2
  show (R i).next.getD j.toNat 0 ≤ _
  omega

omit I hi W in
theorem right_of {r : Rep} {m : Msg} (h : right r m = true) : (0 ≤ m.kind ∧ m.kind ≤ 3) ∧ m.to = r.id ∧ m.fr ≠ r.id ∧ (0 ≤ m.fr ∧ m.fr ≤ 2) ∧ (1 ≤ m.term ∧ m.term ≤ 1099511627776) ∧ (0 ≤ m.index ∧ m.index ≤ 4000) := by
  unfold right between at h
  simp only [Bool.and_eq_true, decide_eq_true_eq] at h
  obtain ⟨⟨⟨⟨⟨⟨⟨⟨⟨⟨⟨h1, h2⟩, h3⟩, h4⟩, h5⟩, h6⟩, _⟩, _⟩, _⟩, _⟩, _⟩, _⟩ := h
  exact ⟨h1, h2, h3, h4, h5, h6⟩

theorem hear_good {m : Msg} (hm : MsgOk g m) : Good g R i (hear (R i) m).1 (hear (R i) m).2 := by
  have N := I.node i hi
  unfold hear
  split
  · exact Good.self I rfl
  rename_i hr
  have hr : right (R i) m = true := by cases h : right (R i) m <;> simp_all
  obtain ⟨hk, hto, hfr, hfr3, htm, hix⟩ := right_of hr
  rw [N.id] at hto hfr
  have key : ∀ (g1 : Gh) (r1 : Rep), Ext g g1 → Inv g1 (up R i r1) → WF r1 → m.term ≤ r1.hard.term →
      Good g R i (if m.kind = 0 then vote r1 m else if m.kind = 1 then voted r1 m else if m.kind = 2 then append r1 m else appended r1 m).1 (if m.kind = 0 then vote r1 m else if m.kind = 1 then voted r1 m else if m.kind = 2 then append r1 m else appended r1 m).2 := by
    intro g1 r1 E1 I1 W1 hle
    have hr1 : up R i r1 i = r1 := up_at _ _ _
    have W1' : WF (up R i r1 i) := by rw [hr1]; exact W1
    have hm1 := E1.msg I.gi hm
    have fin : ∀ r2 o, Good g1 (up R i r1) i r2 o → Good g R i r2 o := fun r2 o ⟨g2, E2, I2, h2⟩ => ⟨g2, E1.trans E2, by rw [up_up] at I2; exact I2, h2⟩
    by_cases h0 : m.kind = 0
    · rw [if_pos h0]
      have := vote_good I1 hi hm1 h0 hfr
      rw [hr1] at this
      exact fin _ _ this
    rw [if_neg h0]
    by_cases h1 : m.kind = 1
    · rw [if_pos h1]
      have := voted_good I1 hi hm1 h1 hto
      rw [hr1] at this
      exact fin _ _ this
    rw [if_neg h1]
    by_cases h2 : m.kind = 2
    · rw [if_pos h2]
      have := append_good I1 hi W1' hm1 h2 hfr (by rw [hr1]; exact hle)
      rw [hr1] at this
      exact fin _ _ this
    rw [if_neg h2]
    have := appended_good I1 hi W1' hm1 (by omega) hfr hfr3.1 (by omega) hix.1
    rw [hr1] at this
    exact fin _ _ this
  have key2 : Good g R i (if m.kind = 0 then vote (if (R i).hard.term < m.term then { R i with hard := ⟨m.term, -1⟩, role := 0 } else R i) m else if m.kind = 1 then voted (if (R i).hard.term < m.term then { R i with hard := ⟨m.term, -1⟩, role := 0 } else R i) m else if m.kind = 2 then append (if (R i).hard.term < m.term then { R i with hard := ⟨m.term, -1⟩, role := 0 } else R i) m else appended (if (R i).hard.term < m.term then { R i with hard := ⟨m.term, -1⟩, role := 0 } else R i) m).1 (if m.kind = 0 then vote (if (R i).hard.term < m.term then { R i with hard := ⟨m.term, -1⟩, role := 0 } else R i) m else if m.kind = 1 then voted (if (R i).hard.term < m.term then { R i with hard := ⟨m.term, -1⟩, role := 0 } else R i) m else if m.kind = 2 then append (if (R i).hard.term < m.term then { R i with hard := ⟨m.term, -1⟩, role := 0 } else R i) m else appended (if (R i).hard.term < m.term then { R i with hard := ⟨m.term, -1⟩, role := 0 } else R i) m).2 := by
    by_cases hb : (R i).hard.term < m.term
    · rw [if_pos hb]
      obtain ⟨g1, E1, I1⟩ := inv_bump I hi hb
      refine key g1 _ E1 I1 ?_ (Int.le_refl _)
      exact { W with
        term0 := by show 0 ≤ m.term; omega
        termM := htm.2
        vote0 := by show (-1 : Int) ≤ -1; omega
        vote2 := by show (-1 : Int) ≤ 2; omega
        logOk := sound_mono _ _ _ _ (by show _ ≤ m.term; omega) W.logOk
        role0 := Int.le_refl _
        role2 := by show (0 : Int) ≤ 2; omega
        nexts := fun (e : (0 : Int) = 2) => absurd e (by decide)
        mtchs := fun (e : (0 : Int) = 2) => absurd e (by decide) }
    · rw [if_neg hb]
      exact key g _ (Ext.refl g) (by rw [up_self]; exact I) W (by omega)
  revert key2
  dsimp only
  generalize (if (R i).hard.term < m.term then ({ R i with hard := ⟨m.term, -1⟩, role := 0 } : Rep) else R i) = r1
  generalize (if m.kind = 0 then vote r1 m else if m.kind = 1 then voted r1 m else if m.kind = 2 then append r1 m else appended r1 m) = ro
  obtain ⟨r2, o⟩ := ro
  rintro ⟨g2, E2, I2, h2⟩
  refine ⟨g2, E2, I2, ?_⟩
  show ∀ m' ∈ (if r2.hard ≠ (R i).hard then { o with save := true, hard := r2.hard } else o).send, MsgOk g2 m'
  split <;> exact h2
end
end M
end Go.Proofs.Ytodmihpmbecncaa
