/-
  Safety of the replicas' protocol, part 2: each elementary step keeps the invariant. No condition; no program in it.
-/
import Derived.Test.YtodmihpmbecncaaPl
namespace Go.Proofs.Ytodmihpmbecncaa
namespace M

/-- A vote for a log that is not behind: what the voter acknowledged stands in it. -/
theorem fresh_keeps {g : Gh} (G : GI g) {i : Nat} {r : Rep} (N : NodeOk g i r) {cl : List Rec} (hcl : GL g cl)
    (hf : tn r.log r.log.length < tn cl cl.length ∨ (tn cl cl.length = tn r.log r.log.length ∧ r.log.length ≤ cl.length))
    (T0 : Int) (n : Nat) (h1 : 1 ≤ n) (h2 : n ≤ g.ak i T0) (h3 : tn (g.el T0) n = T0) : Keeps g cl T0 n := by
  rcases N.ack T0 n h1 h2 h3 with hA | hB
  · have hl := hA.2.1
    have ht : tn r.log n = T0 := by rw [← hA.tn (Nat.le_refl n)]; exact h3
    have hs := N.srt n r.log.length h1 hl (Nat.le_refl _)
    have hc1 : 1 ≤ cl.length := by
      rcases Nat.eq_zero_or_pos cl.length with h | h
      · rw [h, tn_zero] at hf; omega
      · exact h
    obtain ⟨hl1, hl2⟩ := hcl cl.length hc1 (Nat.le_refl _)
    by_cases hq : tn cl cl.length = T0
    · left
      rw [hq] at hl2
      exact hl2.symm.mono (by omega)
    · have hgt : T0 < tn cl cl.length := by omega
      rcases G.lc T0 _ n hgt hl1 h1 hA.1 h3 with hB | hB
      · left
        have hn : n ≤ cl.length := by
          rcases Nat.lt_or_ge cl.length n with hlt | hge
          · exfalso
            have e1 := hB.tn (p := cl.length) (by omega)
            have e2 := hl2.tn (p := cl.length) (Nat.le_refl _)
            have e3 := G.els T0 cl.length n hc1 (by omega) hA.1
            omega
          · exact hge
        exact hB.trans (hl2.symm.mono hn)
      · exact .inr hB
  · exact .inr hB

section
variable {g : Gh} {R : Nat → Rep} {i : Nat} (I : Inv g R) (hi : i < 3)
include I hi

/-- A term that is greater is heard of. -/
theorem inv_bump {T : Int} (hT : (R i).hard.term < T) :
    ∃ g', Ext g g' ∧ Inv g' (up R i { R i with hard := ⟨T, -1⟩, role := 0 }) := by
  have G := I.gi
  have N := I.node i hi
  have hc := N.cur
  let g' : Gh := { g with cur := up g.cur i T }
  have hcur : ∀ v, g.cur v ≤ g'.cur v := fun v => by
    show _ ≤ up g.cur i T v
    by_cases e : v = i
    · subst e; rw [up_at]; omega
    · rw [up_ne _ _ e]; exact Int.le_refl _
  have E : Ext g g' := ⟨hcur, fun _ _ _ => rfl, fun _ _ _ => rfl, fun _ _ => rfl, fun _ => ⟨[], by simp [g']⟩, fun _ _ => Nat.le_refl _, fun _ _ _ => rfl⟩
  have hv0 : g.vt i T = -1 := Decidable.byContradiction fun h => by have := (G.vtc i T h).2; omega
  refine ⟨g', E, I.step E ?_ ?_ ?_⟩
  · intro j hj hji
    exact ⟨up_ne _ _ hji, fun _ => rfl, fun _ => rfl, fun _ _ => rfl, fun _ h => h⟩
  · exact { G with vtc := fun v T h => by have := G.vtc v T h; have := hcur v; omega, akc := fun v T h => by have := G.akc v T h; have := hcur v; omega, elg := G.elg, clg := G.clg, vts := fun v T c T0 n h0 h1 h2 h3 h4 h5 => E.keeps (G.vts v T c T0 n h0 h1 h2 h3 h4 h5), lc := fun T0 T n h1 h2 h3 h4 h5 => E.keeps (G.lc T0 T n h1 h2 h3 h4 h5) }
  · exact { id := N.id, vN := N.vN, mN := N.mN, srt := N.srt.mono (by show _ ≤ T; omega), com0 := N.com0, cur := up_at _ _ _, vote := hv0, gl := N.gl,
            lead := fun (e : (0 : Int) = 2) => absurd e (by decide), ask := fun (e : (0 : Int) = 1) => absurd e (by decide),
            cm := N.cm.imp (fun h => h) fun ⟨T0, n, h1, h2, h3, h4⟩ => ⟨T0, n, E.ch h1, by show T0 ≤ T; omega, h3, h4⟩,
            ack := fun T0 n h1 h2 h3 => E.keeps (N.ack T0 n h1 h2 h3),
            akT := by
              have h0 : g.ak i T = 0 := Decidable.byContradiction fun h => by have := G.akc i T h; omega
              show Ag (g.el T) _ (g.ak i T)
              rw [h0]; exact Ag.zero _ _ }

/-- An election is begun. -/
theorem inv_ask (h0 : 0 ≤ (R i).hard.term) :
    ∃ g', Ext g g' ∧ Inv g' (up R i { R i with hard := ⟨(R i).hard.term + 1, (R i).id⟩, role := 1, votes := [false, false, false].set (R i).id.toNat true }) ∧
      g'.vt i ((R i).hard.term + 1) = i ∧ g'.cl i ((R i).hard.term + 1) = (R i).log := by
  have G := I.gi
  have N := I.node i hi
  have hc := N.cur
  have hid := N.id
  obtain ⟨T, hTe⟩ : ∃ T, T = (R i).hard.term + 1 := ⟨_, rfl⟩
  rw [← hTe, hid]
  let g' : Gh := { g with cur := up g.cur i T, vt := up2 g.vt i T i, cl := up2 g.cl i T (R i).log }
  have hv0 : g.vt i T = -1 := Decidable.byContradiction fun h => by have := (G.vtc i T h).2; omega
  have hcur : ∀ v, g.cur v ≤ g'.cur v := fun v => by
    show _ ≤ up g.cur i T v
    by_cases e : v = i
    · subst e; rw [up_at]; omega
    · rw [up_ne _ _ e]; exact Int.le_refl _
  have hcui : g'.cur i = T := up_at _ _ _
  have hvt : ∀ v t, ¬ (v = i ∧ t = T) → g'.vt v t = g.vt v t := fun v t h => if_neg h
  have hcl : ∀ v t, ¬ (v = i ∧ t = T) → g'.cl v t = g.cl v t := fun v t h => if_neg h
  have hvt1 : g'.vt i T = i := if_pos ⟨rfl, rfl⟩
  have hcl1 : g'.cl i T = (R i).log := if_pos ⟨rfl, rfl⟩
  have E : Ext g g' := by
    refine ⟨hcur, fun v t h => hvt v t ?_, fun v t h => hcl v t ?_, fun _ _ => rfl, fun _ => ⟨[], by simp [g']⟩, fun _ _ => Nat.le_refl _, fun _ _ _ => rfl⟩
    · rintro ⟨rfl, rfl⟩; exact h hv0
    · rintro ⟨rfl, rfl⟩; omega
  have hT : g.ld T ≠ i := fun e => by
    have := G.ldo T i e
    omega
  refine ⟨g', E, I.step E ?_ ?_ ?_, hvt1, hcl1⟩
  · intro j hj hji
    exact ⟨up_ne _ _ hji, fun t => hvt j t (fun h => hji h.1), fun _ => rfl, fun _ _ => rfl, fun _ h => h⟩
  · refine { ldv := fun t h => ?_, vto := fun v t c h => ?_, el0 := G.el0, els := G.els, elg := G.elg, cls := fun v t => ?_, clg := fun v t => ?_, vtc := fun v t h => ?_, akl := G.akl, akc := fun v t h => by have := G.akc v t h; have := hcur v; omega, own := G.own, vts := fun v t c T0 n k0 k1 k2 k3 k4 k5 => ?_, lc := fun T0 T n h1 h2 h3 h4 h5 => E.keeps (G.lc T0 T n h1 h2 h3 h4 h5) }
    · obtain ⟨h1, h2, a, b, ha, hb, hab, h3, h4⟩ := G.ldv t h
      exact ⟨h1, h2, a, b, ha, hb, hab, (E.vt a t (by rw [h3]; exact h)).trans h3, (E.vt b t (by rw [h4]; exact h)).trans h4⟩
    · by_cases e : v = i ∧ t = T
      · obtain ⟨rfl, rfl⟩ := e
        obtain rfl : v = c := by omega
        exact hvt1
      · rw [hvt v t e] at h
        have := G.vto v t c h
        exact (E.vt c t (by omega)).trans this
    · by_cases e : v = i ∧ t = T
      · obtain ⟨rfl, rfl⟩ := e
        rw [hcl1]; exact N.srt.mono (by omega)
      · rw [hcl v t e]; exact G.cls v t
    · by_cases e : v = i ∧ t = T
      · obtain ⟨rfl, rfl⟩ := e
        rw [hcl1]; exact N.gl
      · rw [hcl v t e]; exact G.clg v t
    · by_cases e : v = i ∧ t = T
      · obtain ⟨rfl, rfl⟩ := e
        rw [hcui]; omega
      · rw [hvt v t e] at h
        have := G.vtc v t h
        have := hcur v
        omega
    · by_cases e : v = i ∧ t = T
      · obtain ⟨rfl, rfl⟩ := e
        rw [hvt1] at k1
        obtain rfl : v = c := by omega
        rw [hcl1]
        exact E.keeps (N.ack T0 n k3 k4 k5)
      · rw [hvt v t e] at k1
        have hne : ¬ (c = i ∧ t = T) := by
          rintro ⟨rfl, rfl⟩
          have := G.vto v t c k1
          omega
        rw [hcl c t hne]
        exact E.keeps (G.vts v t c T0 n k0 k1 k2 k3 k4 k5)
  · exact { id := hid, vN := by simp, mN := N.mN, srt := N.srt.mono (by show _ ≤ T; omega), com0 := N.com0, cur := hcui, vote := hvt1, gl := N.gl,
            lead := fun (e : (1 : Int) = 2) => absurd e (by decide),
            ask := fun _ => ⟨hvt1, hcl1, hT, fun j hj hv => by
              have hji : j = i := by
                refine Decidable.byContradiction fun hne => ?_
                change (([false, false, false] : List Bool).set (i : Int).toNat true).getD j false = true at hv
                rw [Int.toNat_natCast, List.getD_eq_getElem?_getD, List.getElem?_set_ne (fun e => hne e.symm)] at hv
                have : j = 0 ∨ j = 1 ∨ j = 2 := by omega
                rcases this with rfl | rfl | rfl <;> cases hv
              subst hji
              exact hvt1⟩,
            cm := N.cm.imp (fun h => h) fun ⟨T0, n, h1, h2, h3, h4⟩ => ⟨T0, n, E.ch h1, by show T0 ≤ T; omega, h3, h4⟩,
            ack := fun T0 n h1 h2 h3 => E.keeps (N.ack T0 n h1 h2 h3),
            akT := by
              have h0 : g.ak i T = 0 := Decidable.byContradiction fun h => by have := G.akc i T h; omega
              show Ag (g.el T) _ (g.ak i T)
              rw [h0]; exact Ag.zero _ _ }

/-- A vote is given to another replica. -/
theorem inv_vote {c : Nat} (hci : c ≠ i) (hc3 : c < 3) (hvc : g.vt c (R i).hard.term = c) (hv : (R i).hard.vote = -1 ∨ (R i).hard.vote = c)
    (hf : tn (R i).log (R i).log.length < tn (g.cl c (R i).hard.term) (g.cl c (R i).hard.term).length ∨
      (tn (g.cl c (R i).hard.term) (g.cl c (R i).hard.term).length = tn (R i).log (R i).log.length ∧ (R i).log.length ≤ (g.cl c (R i).hard.term).length)) :
    ∃ g', Ext g g' ∧ Inv g' (up R i { R i with hard := ⟨(R i).hard.term, c⟩ }) ∧ g'.vt i (R i).hard.term = c := by
  have G := I.gi
  have N := I.node i hi
  have hc := N.cur
  obtain ⟨T, hT⟩ : ∃ T, T = (R i).hard.term := ⟨_, rfl⟩
  have hvi : g.vt i T = -1 ∨ g.vt i T = c := by rw [hT, N.vote]; exact hv
  rw [← hT] at hvc hf ⊢
  let g' : Gh := { g with vt := up2 g.vt i T c }
  have hvt : ∀ v t, ¬ (v = i ∧ t = T) → g'.vt v t = g.vt v t := fun v t h => if_neg h
  have hvt1 : g'.vt i T = c := if_pos ⟨rfl, rfl⟩
  have E : Ext g g' := by
    refine ⟨fun _ => Int.le_refl _, fun v t h => ?_, fun _ _ _ => rfl, fun _ _ => rfl, fun _ => ⟨[], by simp [g']⟩, fun _ _ => Nat.le_refl _, fun _ _ _ => rfl⟩
    by_cases e : v = i ∧ t = T
    · obtain ⟨rfl, rfl⟩ := e
      rw [hvt1]; rcases hvi with h1 | h1
      · exact absurd h1 h
      · exact h1.symm
    · exact hvt v t e
  refine ⟨g', E, I.step E ?_ ?_ ?_, hvt1⟩
  · intro j hj hji
    exact ⟨rfl, fun t => hvt j t (fun h => hji h.1), fun _ => rfl, fun _ _ => rfl, fun _ h => h⟩
  · refine { ldv := fun t h => ?_, vto := fun v t c' h => ?_, el0 := G.el0, els := G.els, elg := G.elg, cls := G.cls, clg := G.clg, vtc := fun v t h => ?_, akl := G.akl, akc := G.akc, own := G.own, vts := fun v t c' T0 n k0 k1 k2 k3 k4 k5 => ?_, lc := fun T0 T n h1 h2 h3 h4 h5 => E.keeps (G.lc T0 T n h1 h2 h3 h4 h5) }
    · obtain ⟨h1, h2, a, b, ha, hb, hab, h3, h4⟩ := G.ldv t h
      exact ⟨h1, h2, a, b, ha, hb, hab, (E.vt a t (by rw [h3]; exact h)).trans h3, (E.vt b t (by rw [h4]; exact h)).trans h4⟩
    · by_cases e : v = i ∧ t = T
      · obtain ⟨rfl, rfl⟩ := e
        rw [hvt1] at h
        obtain rfl : c = c' := by omega
        rw [hvt c t (by omega)]; exact hvc
      · rw [hvt v t e] at h
        have := G.vto v t c' h
        exact (E.vt c' t (by omega)).trans this
    · by_cases e : v = i ∧ t = T
      · obtain ⟨rfl, rfl⟩ := e
        have := G.vtc c t (by omega)
        refine ⟨this.1, ?_⟩
        show t ≤ g.cur v
        omega
      · rw [hvt v t e] at h
        exact G.vtc v t h
    · by_cases e : v = i ∧ t = T
      · obtain ⟨rfl, rfl⟩ := e
        rw [hvt1] at k1
        obtain rfl : c = c' := by omega
        exact E.keeps (fresh_keeps G N (G.clg c t) hf T0 n k3 k4 k5)
      · rw [hvt v t e] at k1
        exact E.keeps (G.vts v t c' T0 n k0 k1 k2 k3 k4 k5)
  · exact { id := N.id, vN := N.vN, mN := N.mN, srt := by rw [hT]; exact N.srt, com0 := N.com0, cur := by rw [hT]; exact hc, vote := hvt1, gl := N.gl,
            lead := fun e => by
              obtain ⟨h1, h2, h3⟩ := N.lead e
              rw [← hT] at h1 h2 h3
              exact ⟨h1, h2, h3⟩,
            ask := fun e => by
              obtain ⟨h1, _⟩ := N.ask e
              rw [← hT] at h1
              omega,
            cm := by rw [hT]; exact N.cm.imp (fun h => h) fun ⟨T0, n, h1, h2, h3, h4⟩ => ⟨T0, n, E.ch h1, h2, h3, h4⟩,
            ack := fun T0 n h1 h2 h3 => E.keeps (N.ack T0 n h1 h2 h3),
            akT := by rw [hT]; exact N.akT }

omit hi in
/-- A step that changes no ghost. -/
theorem inv_same {r' : Rep} (h : NodeOk g i r') : Inv g (up R i r') :=
  I.step (Ext.refl g) (fun _ _ _ => ⟨rfl, fun _ => rfl, fun _ => rfl, fun _ _ => rfl, fun _ h => h⟩) I.gi h

/-- A crash: what is not stored is forgotten. -/
theorem inv_start : Inv g (up R i (made i ⟨(R i).hard, (R i).log, 0⟩)) := by
  have N := I.node i hi
  exact inv_same I {
    id := rfl, vN := rfl, mN := rfl, srt := N.srt, com0 := Int.le_refl _, cur := N.cur, vote := N.vote, gl := N.gl,
    lead := fun (e : (0 : Int) = 2) => absurd e (by decide), ask := fun (e : (0 : Int) = 1) => absurd e (by decide), cm := .inl rfl, ack := N.ack, akT := N.akT }

/-- A vote is counted. -/
theorem inv_count {j : Nat} (hr : (R i).role = 1) (hv : g.vt j (R i).hard.term = i) : Inv g (up R i { R i with votes := (R i).votes.set j true }) := by
  have N := I.node i hi
  obtain ⟨h1, h2, h3, h4⟩ := N.ask hr
  exact inv_same I { N with
    vN := by simpa using N.vN
    lead := fun (e : (R i).role = 2) => by omega
    ask := fun _ => ⟨h1, h2, h3, fun k k1 k2 => by
      by_cases e : j = k
      · subst e; exact hv
      · change ((R i).votes.set j true).getD k false = true at k2
        rw [List.getD_eq_getElem?_getD, List.getElem?_set_ne e, ← List.getD_eq_getElem?_getD] at k2
        exact h4 k k1 k2⟩ }

omit I hi in
theorem count_two : ∀ (l : List Bool), l.length = 3 → 2 ≤ count l → ∃ a b, a < 3 ∧ b < 3 ∧ a ≠ b ∧ l.getD a false = true ∧ l.getD b false = true
  | [true, true, _], _, _ => ⟨0, 1, by decide, by decide, by decide, rfl, rfl⟩
  | [true, false, true], _, _ => ⟨0, 2, by decide, by decide, by decide, rfl, rfl⟩
  | [false, true, true], _, _ => ⟨1, 2, by decide, by decide, by decide, rfl, rfl⟩
  | [true, false, false], _, h => absurd h (by decide)
  | [false, true, false], _, h => absurd h (by decide)
  | [false, false, true], _, h => absurd h (by decide)
  | [false, false, false], _, h => absurd h (by decide)

/-- A majority has voted: there is a leader. -/
theorem inv_lead (hr : (R i).role = 1) (hn : 2 ≤ count (R i).votes) (nx : List Int) :
    ∃ g', Ext g g' ∧ Inv g' (up R i { R i with role := 2, next := nx, mtch := [0, 0, 0] }) := by
  have G := I.gi
  have N := I.node i hi
  have hc := N.cur
  obtain ⟨a1, a2, a3, a4⟩ := N.ask hr
  obtain ⟨T, hT⟩ : ∃ T, T = (R i).hard.term := ⟨_, rfl⟩
  rw [← hT] at a1 a2 a3 a4 hc
  obtain ⟨va, vb, hva, hvb, hvab, ya, yb⟩ := count_two _ N.vN hn
  have ta := a4 va hva ya
  have tb := a4 vb hvb yb
  have hld : g.ld T = -1 := Decidable.byContradiction fun h => by
    obtain ⟨h1, h2, a, b, ha, hb, hab, h3, h4⟩ := G.ldv T h
    have : a = va ∨ a = vb ∨ b = va ∨ b = vb := by omega
    rcases this with rfl | rfl | rfl | rfl <;> omega
  have hel : g.el T = [] := G.el0 T hld
  have hak : ∀ v, g.ak v T = 0 := fun v => by have := G.akl v T; rw [hel] at this; simpa using this
  have hsl : Srt 1 (T - 1) (R i).log := by rw [← a2]; exact G.cls i T
  have hno : ∀ n, 1 ≤ n → n ≤ (R i).log.length → tn (R i).log n ≠ T := fun n h1 h2 => by
    have := hsl n n h1 (Nat.le_refl _) h2
    omega
  let g' : Gh := { g with ld := upT g.ld T i, el := upT g.el T (R i).log, ak := up2 g.ak i T (R i).log.length }
  have l1 : g'.ld T = i := upT_at _ _ _
  have l2 : ∀ t, t ≠ T → g'.ld t = g.ld t := fun t h => upT_ne _ _ h
  have e1 : g'.el T = (R i).log := upT_at _ _ _
  have e2 : ∀ t, t ≠ T → g'.el t = g.el t := fun t h => upT_ne _ _ h
  have k1 : g'.ak i T = (R i).log.length := up2_at _ _ _ _
  have k2 : ∀ v t, ¬ (v = i ∧ t = T) → g'.ak v t = g.ak v t := fun v t h => if_neg h
  have E : Ext g g' := by
    refine ⟨fun _ => Int.le_refl _, fun _ _ _ => rfl, fun _ _ _ => rfl, fun t h => l2 t fun e => h (by rw [e]; exact hld), fun t => ?_, fun v t => ?_, fun v t h => k2 v t ?_⟩
    · by_cases e : t = T
      · subst e; rw [e1, hel]; exact ⟨_, rfl⟩
      · rw [e2 t e]; exact ⟨[], by simp⟩
    · by_cases e : v = i ∧ t = T
      · obtain ⟨rfl, rfl⟩ := e; rw [hak]; exact Nat.zero_le _
      · rw [k2 v t e]; exact Nat.le_refl _
    · rintro ⟨rfl, rfl⟩; omega
  refine ⟨g', E, I.step E ?_ ?_ ?_⟩
  · intro j hj hji
    refine ⟨rfl, fun _ => rfl, fun t => k2 j t (fun h => hji h.1), fun t h => e2 t ?_, fun t h => ?_⟩
    · rintro rfl; omega
    · by_cases e : t = T
      · subst e; rw [l1] at h; omega
      · rw [l2 t e] at h; exact h
  · refine { ldv := fun t h => ?_, vto := G.vto, el0 := fun t h => ?_, els := fun t => ?_, elg := fun t => ?_, cls := G.cls, clg := fun v t => E.gl (G.clg v t), vtc := G.vtc, akl := fun v t => ?_, akc := fun v t h => ?_, own := fun t c h => ?_, vts := fun v t c T0 n q0 q1 q2 q3 q4 q5 => ?_, lc := fun T0 t n q1 q2 q3 q4 q5 => ?_ }
    · by_cases e : t = T
      · subst e; rw [l1]; exact ⟨by omega, by omega, va, vb, hva, hvb, hvab, ta, tb⟩
      · rw [l2 t e] at h ⊢; exact G.ldv t h
    · by_cases e : t = T
      · subst e; rw [l1] at h; omega
      · rw [l2 t e] at h; rw [e2 t e]; exact G.el0 t h
    · by_cases e : t = T
      · subst e; rw [e1]; exact hsl.mono (by omega)
      · rw [e2 t e]; exact G.els t
    · by_cases e : t = T
      · subst e; rw [e1]; exact E.gl N.gl
      · rw [e2 t e]; exact E.gl (G.elg t)
    · by_cases e : t = T
      · subst e
        by_cases e' : v = i
        · subst e'; rw [k1, e1]; exact Nat.le_refl _
        · rw [k2 v t (fun h => e' h.1), hak]; exact Nat.zero_le _
      · rw [k2 v t (fun h => e h.2), e2 t e]; exact G.akl v t
    · by_cases e : v = i ∧ t = T
      · obtain ⟨rfl, rfl⟩ := e
        show t ≤ g.cur v
        omega
      · rw [k2 v t e] at h; exact G.akc v t h
    · by_cases e : t = T
      · subst e; rw [l1] at h
        obtain rfl : i = c := by omega
        rw [k1, e1]
      · rw [l2 t e] at h; rw [k2 c t (fun h => e h.2), e2 t e]; exact G.own t c h
    · by_cases e : v = i ∧ T0 = T
      · obtain ⟨rfl, rfl⟩ := e
        have := (G.vtc v t (by show g'.vt v t ≠ -1; omega)).2
        omega
      · rw [k2 v T0 e] at q4
        by_cases e' : T0 = T
        · subst e'; rw [hak] at q4; omega
        · rw [e2 T0 e'] at q5; exact E.keeps (G.vts v t c T0 n q0 q1 q2 q3 q4 q5)
    · by_cases e : T0 = T
      · subst e
        rw [e1] at q4 q5
        exact absurd q5 (hno n q3 q4)
      · rw [e2 T0 e] at q4 q5
        by_cases e' : t = T
        · subst e'
          rw [e1]
          have hca := (G.vtc va t (by omega)).2
          have hcb := (G.vtc vb t (by omega)).2
          by_cases xa : n ≤ g.ak va T0
          · have := G.vts va t i T0 n hva ta q1 q3 xa q5
            rw [a2] at this
            exact E.keeps this
          by_cases xb : n ≤ g.ak vb T0
          · have := G.vts vb t i T0 n hvb tb q1 q3 xb q5
            rw [a2] at this
            exact E.keeps this
          exact .inr (E.bl ⟨va, vb, hva, hvb, hvab, by omega, by omega, by omega, by omega⟩)
        · rw [l2 t e'] at q2
          have := G.lc T0 t n q1 q2 q3 q4 q5
          rw [e2 t e']
          exact E.keeps this
  · refine { N with
            mN := rfl, cur := N.cur, vote := N.vote, gl := E.gl N.gl, lead := fun _ => ?_, ask := fun (e : (2 : Int) = 1) => absurd e (by decide),
            cm := N.cm.imp (fun h => h) fun ⟨T0, n, h1, h2, h3, h4⟩ => ⟨T0, n, E.ch h1, h2, h3, E.agL h4⟩, ack := fun T0 n h1 h2 h3 => ?_, akT := by
              show Ag (g'.el (R i).hard.term) (R i).log (g'.ak i (R i).hard.term)
              rw [← hT, k1, e1]
              exact Ag.refl (Nat.le_refl _) }
    · show g'.ld (R i).hard.term = i ∧ g'.el (R i).hard.term = (R i).log ∧ _
      rw [← hT]
      refine ⟨l1, e1, fun j hj hji => ?_⟩
      have : j = 0 ∨ j = 1 ∨ j = 2 := by omega
      rcases this with rfl | rfl | rfl <;> exact Int.natCast_nonneg _
    · by_cases e : T0 = T
      · subst e
        rw [k1] at h2
        rw [e1] at h3
        exact absurd h3 (hno n h1 h2)
      · rw [k2 i T0 (fun h => e h.2)] at h2
        rw [e2 T0 e] at h3
        exact E.keeps (N.ack T0 n h1 h2 h3)

/-- Entries of the leader's log are taken over. -/
theorem inv_accept {c : Nat} {N : Nat} {log' : List Rec} {com' : Int} (hld : g.ld (R i).hard.term = c) (hci : c ≠ i) (hN : N ≤ (g.el (R i).hard.term).length)
    (hA : Ag (g.el (R i).hard.term) log' N) (hK : ∀ n, Ag (g.el (R i).hard.term) (R i).log n → Ag (g.el (R i).hard.term) log' n) (hcp : Ag (R i).log log' (R i).commit.toNat)
    (hGL : GL g log') (hS : Srt 1 (R i).hard.term log')
    (hcm : com' = (R i).commit ∨ (0 ≤ com' ∧ com' ≤ N ∧ ∃ T0 n, Ch g T0 n ∧ T0 ≤ (R i).hard.term ∧ com' ≤ n)) :
    ∃ g', Ext g g' ∧ Inv g' (up R i { R i with role := 0, log := log', commit := com' }) ∧ N ≤ g'.ak i (R i).hard.term := by
  have G := I.gi
  have Nd := I.node i hi
  have hc := Nd.cur
  obtain ⟨T, hT⟩ : ∃ T, T = (R i).hard.term := ⟨_, rfl⟩
  rw [← hT] at hld hN hA hK hS hcm hc ⊢
  let g' : Gh := { g with ak := up2 g.ak i T (max (g.ak i T) N) }
  have k1 : g'.ak i T = max (g.ak i T) N := up2_at _ _ _ _
  have k2 : ∀ v t, ¬ (v = i ∧ t = T) → g'.ak v t = g.ak v t := fun v t h => if_neg h
  have E : Ext g g' := by
    refine ⟨fun _ => Int.le_refl _, fun _ _ _ => rfl, fun _ _ _ => rfl, fun t h => rfl, fun t => ⟨[], by simp [g']⟩, fun v t => ?_, fun v t h => k2 v t ?_⟩
    · by_cases e : v = i ∧ t = T
      · obtain ⟨rfl, rfl⟩ := e; rw [k1]; omega
      · rw [k2 v t e]; exact Nat.le_refl _
    · rintro ⟨rfl, rfl⟩; omega
  -- what a leader's log keeps of an earlier term, the log keeps
  have hthru : ∀ T0 n, T0 ≤ T → 1 ≤ n → n ≤ (g.el T0).length → tn (g.el T0) n = T0 → Keeps g (g.el T) T0 n := fun T0 n h1 h2 h3 h4 => by
    by_cases e : T0 = T
    · subst e; exact .inl (Ag.refl h3)
    · exact G.lc T0 T n (by omega) (by omega) h2 h3 h4
  refine ⟨g', E, I.step E ?_ ?_ ?_, by rw [k1]; omega⟩
  · intro j hj hji
    exact ⟨rfl, fun _ => rfl, fun t => k2 j t (fun h => hji h.1), fun _ _ => rfl, fun _ h => h⟩
  · refine { G with elg := G.elg, clg := G.clg, akl := fun v t => ?_, akc := fun v t h => ?_, own := fun t c' h => ?_, vts := fun v t c T0 n q0 q1 q2 q3 q4 q5 => ?_, lc := fun T0 t n q1 q2 q3 q4 q5 => E.keeps (G.lc T0 t n q1 q2 q3 q4 q5) }
    · by_cases e : v = i ∧ t = T
      · obtain ⟨rfl, rfl⟩ := e
        have := G.akl v t
        rw [k1]
        show _ ≤ (g.el t).length
        omega
      · rw [k2 v t e]; exact G.akl v t
    · by_cases e : v = i ∧ t = T
      · obtain ⟨rfl, rfl⟩ := e
        show t ≤ g.cur v
        omega
      · rw [k2 v t e] at h; exact G.akc v t h
    · rw [k2 c' t (fun e => hci (by
        obtain ⟨rfl, rfl⟩ := e
        exact Int.ofNat.inj (hld.symm.trans h)))]
      exact G.own t c' h
    · by_cases e : v = i ∧ T0 = T
      · obtain ⟨rfl, rfl⟩ := e
        change g.vt v t = c at q1
        have := (G.vtc v t (by omega)).2
        omega
      · rw [k2 v T0 e] at q4
        exact E.keeps (G.vts v t c T0 n q0 q1 q2 q3 q4 q5)
  · refine { Nd with
            srt := by rw [hT] at hS; exact hS, com0 := ?_, cur := Nd.cur, vote := Nd.vote, gl := E.gl hGL, lead := fun (e : (0 : Int) = 2) => absurd e (by decide), ask := fun (e : (0 : Int) = 1) => absurd e (by decide),
            cm := ?_, ack := fun T0 n h1 h2 h3 => ?_, akT := by
              show Ag (g.el (R i).hard.term) log' (g'.ak i (R i).hard.term)
              have := Nd.akT
              rw [← hT] at this ⊢
              rw [k1]
              rcases Nat.le_total (g.ak i T) N with q | q
              · rw [Nat.max_eq_right q]; exact hA
              · rw [Nat.max_eq_left q]; exact hK _ this }
    · show 0 ≤ com'
      have := Nd.com0
      rcases hcm with h | ⟨h, _⟩ <;> omega
    · show com' = 0 ∨ ∃ T0 n, Ch g' T0 n ∧ T0 ≤ (R i).hard.term ∧ com' ≤ n ∧ Ag (g'.el T0) log' com'.toNat
      rw [← hT]
      rcases hcm with rfl | ⟨h0, h1, T0, n, h2, h3, h4⟩
      · refine Nd.cm.imp (fun h => h) fun ⟨T0, n, h1, h2, h3, h4⟩ => ⟨T0, n, E.ch h1, by omega, h3, h4.trans hcp⟩
      · refine .inr ⟨T0, n, E.ch h2, h3, h4, ?_⟩
        rcases hthru T0 n h3 h2.1 h2.2.1 h2.2.2.1 with h | h
        · exact (h.mono (by omega)).trans (hA.mono (by omega))
        · exact absurd h h2.noBl
    · change tn (g.el T0) n = T0 at h3
      by_cases e : T0 = T
      · subst e
        rw [k1] at h2
        by_cases hn : n ≤ N
        · exact .inl (hA.mono hn)
        · exact E.keeps ((Nd.ack T0 n h1 (by omega) h3).imp (hK n) (fun h => h))
      · rw [k2 i T0 (fun h => e h.2)] at h2
        have h5 := G.akc i T0 (by omega)
        rcases hthru T0 n (by omega) h1 (Nat.le_trans h2 (G.akl i T0)) h3 with h | h
        · rcases Nd.ack T0 n h1 h2 h3 with h' | h'
          · exact E.keeps (.inl (h.trans (hK n (h.symm.trans h'))))
          · exact E.keeps (.inr h')
        · exact E.keeps (.inr h)

/-- The leader hears what another replica has. -/
theorem inv_ack {j : Nat} {X : Int} (hr : (R i).role = 2) (hj : j < 3) (hji : j ≠ i) (hX : X ≤ g.ak j (R i).hard.term) (nx : List Int) :
    Inv g (up R i (advance { R i with mtch := (R i).mtch.set j X, next := nx })) := by
  have G := I.gi
  have N := I.node i hi
  obtain ⟨l1, l2, l3⟩ := N.lead hr
  have hm : ∀ k, k < 3 → k ≠ i → ((R i).mtch.set j X).getD k 0 ≤ g.ak k (R i).hard.term := fun k k1 k2 => by
    by_cases e : j = k
    · subst e
      rw [List.getD_eq_getElem?_getD, List.getElem?_set, if_pos rfl, if_pos (by rw [N.mN]; exact hj)]
      exact hX
    · rw [List.getD_eq_getElem?_getD, List.getElem?_set_ne e, ← List.getD_eq_getElem?_getD]
      exact l3 k k1 k2
  have hn : NodeOk g i { R i with mtch := (R i).mtch.set j X, next := nx } := { N with
    mN := by simpa using N.mN
    lead := fun _ => ⟨l1, l2, hm⟩ }
  refine inv_same I ?_
  unfold advance
  generalize hmo : List.foldl (fun t k => max t ((({ R i with mtch := (R i).mtch.set j X, next := nx } : Rep).mtch).getD k.toNat 0)) 0 (others (R i).id) = mo
  show NodeOk g i (if (R i).commit < mo ∧ tm (R i).log mo = (R i).hard.term then _ else _)
  split
  · rename_i hc
    have hc1 : (R i).commit < mo := hc.1
    have hc2 : tm (R i).log mo = (R i).hard.term := hc.2
    have hmo1 : ∃ k, k < 3 ∧ k ≠ i ∧ mo ≤ g.ak k (R i).hard.term := by
      have hid := N.id
      have h0 := N.com0
      rw [hid] at hmo
      have h3 : i = 0 ∨ i = 1 ∨ i = 2 := by omega
      rcases h3 with rfl | rfl | rfl
      · have e1 := hm 1 (by omega) (by omega)
        have e2 := hm 2 (by omega) (by omega)
        change max (max 0 (((R 0).mtch.set j X).getD 1 0)) (((R 0).mtch.set j X).getD 2 0) = mo at hmo
        by_cases h : mo = ((R 0).mtch.set j X).getD 1 0
        · exact ⟨1, by omega, by omega, by omega⟩
        · exact ⟨2, by omega, by omega, by omega⟩
      · have e1 := hm 0 (by omega) (by omega)
        have e2 := hm 2 (by omega) (by omega)
        change max (max 0 (((R 1).mtch.set j X).getD 0 0)) (((R 1).mtch.set j X).getD 2 0) = mo at hmo
        by_cases h : mo = ((R 1).mtch.set j X).getD 0 0
        · exact ⟨0, by omega, by omega, by omega⟩
        · exact ⟨2, by omega, by omega, by omega⟩
      · have e1 := hm 0 (by omega) (by omega)
        have e2 := hm 1 (by omega) (by omega)
        change max (max 0 (((R 2).mtch.set j X).getD 0 0)) (((R 2).mtch.set j X).getD 1 0) = mo at hmo
        by_cases h : mo = ((R 2).mtch.set j X).getD 0 0
        · exact ⟨0, by omega, by omega, by omega⟩
        · exact ⟨1, by omega, by omega, by omega⟩
    obtain ⟨k, k1, k2, k3⟩ := hmo1
    have h0 := N.com0
    obtain ⟨p, rfl⟩ := Int.eq_ofNat_of_zero_le (show 0 ≤ mo by omega)
    have hp : p ≤ (g.el (R i).hard.term).length := Nat.le_trans (by omega) (G.akl k (R i).hard.term)
    have htn : tn (g.el (R i).hard.term) p = (R i).hard.term := by rw [l2]; exact hc2
    refine { hn with com0 := ?_, cm := .inr ⟨(R i).hard.term, p, ⟨?_, hp, htn, i, k, hi, k1, fun e => k2 e.symm, ?_, by omega⟩, Int.le_refl _, Int.le_refl _, ?_⟩ }
    · show (0 : Int) ≤ p; omega
    · omega
    · rw [G.own _ i l1]; exact hp
    · show Ag (g.el (R i).hard.term) (R i).log ((p : Int).toNat)
      rw [l2, Int.toNat_natCast]
      rw [l2] at hp
      exact Ag.refl hp
  · exact hn

/-- The leader adds an entry. -/
theorem inv_propose {x : Rec} (hr : (R i).role = 2) (hx : x.term = (R i).hard.term) (h1 : 1 ≤ (R i).hard.term) :
    ∃ g', Ext g g' ∧ Inv g' (up R i { R i with log := (R i).log ++ [x] }) := by
  have G := I.gi
  have N := I.node i hi
  have hc := N.cur
  obtain ⟨l1, l2, l3⟩ := N.lead hr
  obtain ⟨T, hT⟩ : ∃ T, T = (R i).hard.term := ⟨_, rfl⟩
  rw [← hT] at l1 l2 l3 hx hc h1
  let g' : Gh := { g with el := upT g.el T ((R i).log ++ [x]), ak := up2 g.ak i T ((R i).log.length + 1) }
  have e1 : g'.el T = (R i).log ++ [x] := upT_at _ _ _
  have e2 : ∀ t, t ≠ T → g'.el t = g.el t := fun t h => upT_ne _ _ h
  have k1 : g'.ak i T = (R i).log.length + 1 := up2_at _ _ _ _
  have k2 : ∀ v t, ¬ (v = i ∧ t = T) → g'.ak v t = g.ak v t := fun v t h => if_neg h
  have ho := G.own T i l1
  rw [l2] at ho
  have E : Ext g g' := by
    refine ⟨fun _ => Int.le_refl _, fun _ _ _ => rfl, fun _ _ _ => rfl, fun t h => rfl, fun t => ?_, fun v t => ?_, fun v t h => k2 v t ?_⟩
    · by_cases e : t = T
      · subst e; rw [e1, l2]; exact ⟨_, rfl⟩
      · rw [e2 t e]; exact ⟨[], by simp⟩
    · by_cases e : v = i ∧ t = T
      · obtain ⟨rfl, rfl⟩ := e; rw [k1]; omega
      · rw [k2 v t e]; exact Nat.le_refl _
    · rintro ⟨rfl, rfl⟩; omega
  have hgl : GL g' ((R i).log ++ [x]) := fun p q1 q2 => by
    simp at q2
    by_cases hp : p ≤ (R i).log.length
    · rw [tn_append _ _ _ hp]
      obtain ⟨q3, q4⟩ := E.gl N.gl p q1 hp
      exact ⟨q3, q4.appL _⟩
    · obtain rfl : p = (R i).log.length + 1 := by omega
      rw [tn_snoc, hx, e1]
      exact ⟨by show g.ld T ≠ -1; omega, Ag.refl (by simp)⟩
  have hsr : Srt 1 T ((R i).log ++ [x]) := Srt.snoc (by rw [hT]; exact N.srt) x (by omega) (by omega)
  have hakl : ∀ v, v ≠ i → g.ak v T ≤ (R i).log.length := fun v _ => by have := G.akl v T; rw [l2] at this; exact this
  refine ⟨g', E, I.step E ?_ ?_ ?_⟩
  · intro j hj hji
    refine ⟨rfl, fun _ => rfl, fun t => k2 j t (fun h => hji h.1), fun t h => e2 t ?_, fun t h => h⟩
    rintro rfl; omega
  · refine { G with el0 := fun t h => ?_, els := fun t => ?_, elg := fun t => ?_, clg := fun v t => E.gl (G.clg v t), akl := fun v t => ?_, akc := fun v t h => ?_, own := fun t c h => ?_, vts := fun v t c T0 n q0 q1 q2 q3 q4 q5 => ?_, lc := fun T0 t n q1 q2 q3 q4 q5 => ?_ }
    · change g.ld t = -1 at h
      rw [e2 t (by rintro rfl; omega)]; exact G.el0 t h
    · by_cases e : t = T
      · subst e; rw [e1]; exact hsr
      · rw [e2 t e]; exact G.els t
    · by_cases e : t = T
      · subst e; rw [e1]; exact hgl
      · rw [e2 t e]; exact E.gl (G.elg t)
    · by_cases e : t = T
      · subst e
        rw [e1]
        simp only [List.length_append, List.length_cons, List.length_nil]
        by_cases e' : v = i
        · subst e'; rw [k1]; omega
        · rw [k2 v t (fun h => e' h.1)]; have := hakl v e'; omega
      · rw [k2 v t (fun h => e h.2), e2 t e]; exact G.akl v t
    · by_cases e : v = i ∧ t = T
      · obtain ⟨rfl, rfl⟩ := e
        show t ≤ g.cur v
        omega
      · rw [k2 v t e] at h; exact G.akc v t h
    · change g.ld t = c at h
      by_cases e : t = T
      · subst e
        obtain rfl : i = c := by omega
        rw [k1, e1]; simp
      · rw [k2 c t (fun h => e h.2), e2 t e]; exact G.own t c h
    · change g.vt v t = c at q1
      by_cases e : v = i ∧ T0 = T
      · obtain ⟨rfl, rfl⟩ := e
        have := (G.vtc v t (by omega)).2
        omega
      · rw [k2 v T0 e] at q4
        rw [E.tn (Nat.le_trans q4 (G.akl v T0))] at q5
        exact E.keeps (G.vts v t c T0 n q0 q1 q2 q3 q4 q5)
    · change g.ld t ≠ -1 at q2
      by_cases hold : n ≤ (g.el T0).length
      · rw [E.tn hold] at q5
        rcases E.keeps (G.lc T0 t n q1 q2 q3 hold q5) with h | h
        · exact .inl (E.agR h)
        · exact .inr h
      · have e : T0 = T := Decidable.byContradiction fun e => by rw [e2 T0 e] at q4; exact hold q4
        subst e
        rw [l2] at hold
        obtain ⟨_, _, a, b, ha, hb, hab, va, vb⟩ := G.ldv t q2
        have hx1 : ∀ v, g.vt v t ≠ -1 → T0 < g'.cur v ∧ g'.ak v T0 < n := fun v hv => by
          have := (G.vtc v t hv).2
          have hvi : v ≠ i := by rintro rfl; omega
          refine ⟨by show T0 < g.cur v; omega, ?_⟩
          rw [k2 v T0 (fun h => hvi h.1)]
          have := hakl v hvi
          omega
        have xa := hx1 a (by omega)
        have xb := hx1 b (by omega)
        exact .inr ⟨a, b, ha, hb, hab, xa.1, xa.2, xb.1, xb.2⟩
  · refine { N with
            srt := by rw [hT] at hsr; exact hsr, cur := N.cur, vote := N.vote, gl := hgl,
            lead := fun _ => ?_, ask := fun (e : (R i).role = 1) => absurd e (by omega),
            cm := N.cm.imp (fun h => h) fun ⟨T0, n, h1, h2, h3, h4⟩ => ⟨T0, n, E.ch h1, h2, h3, (E.agL h4).app _⟩, ack := fun T0 n h1 h2 h3 => ?_, akT := by
              show Ag (g'.el (R i).hard.term) ((R i).log ++ [x]) (g'.ak i (R i).hard.term)
              rw [← hT, k1, e1]
              exact Ag.refl (by simp) }
    · show g'.ld (R i).hard.term = i ∧ g'.el (R i).hard.term = (R i).log ++ [x] ∧ _
      rw [← hT]
      exact ⟨l1, e1, fun j q1 q2 => Int.le_trans (l3 j q1 q2) (by have := E.ak j T; omega)⟩
    · by_cases e : T0 = T
      · subst e
        rw [k1] at h2
        left
        rw [e1]
        exact Ag.refl (by simp; omega)
      · rw [k2 i T0 (fun h => e h.2)] at h2
        rw [e2 T0 e] at h3
        rcases E.keeps (N.ack T0 n h1 h2 h3) with h | h
        · exact .inl (h.app _)
        · exact .inr h
end
end M
end Go.Proofs.Ytodmihpmbecncaa
