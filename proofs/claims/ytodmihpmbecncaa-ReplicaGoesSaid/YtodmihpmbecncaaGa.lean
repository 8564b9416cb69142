/-
  The replicas' protocol goes on, part 1: soundness of replicas is kept by each call; flows. No condition; no program in it.
-/
import Derived.Test.YtodmihpmbecncaaPk
namespace Go.Proofs.Ytodmihpmbecncaa
namespace M

/-! ### What hearing does -/
def bump (r : Rep) (m : Msg) : Rep := if r.hard.term < m.term then { r with hard := ⟨m.term, -1⟩, role := 0 } else r
def deed (r : Rep) (m : Msg) : Rep × Out := if m.kind = 0 then vote r m else if m.kind = 1 then voted r m else if m.kind = 2 then append r m else appended r m
theorem hear_deed {r : Rep} {m : Msg} (h : right r m = true) : (hear r m).1 = (deed (bump r m) m).1 ∧ (hear r m).2.send = (deed (bump r m) m).2.send := by
  unfold hear
  rw [if_neg (by rw [h]; exact Bool.noConfusion)]
  unfold deed bump
  dsimp only
  generalize (if r.hard.term < m.term then ({ r with hard := ⟨m.term, -1⟩, role := 0 } : Rep) else r) = r1
  generalize (if m.kind = 0 then vote r1 m else if m.kind = 1 then voted r1 m else if m.kind = 2 then append r1 m else appended r1 m) = ro
  obtain ⟨r2, o⟩ := ro
  refine ⟨rfl, ?_⟩
  show (if r2.hard ≠ r.hard then ({ o with save := true, hard := r2.hard } : Out) else o).send = o.send
  split <;> rfl
theorem hear_wrong {r : Rep} {m : Msg} (h : right r m = false) : hear r m = (r, noOut) := by
  unfold hear; rw [if_pos h]

theorem right_all {r : Rep} {m : Msg} (h : right r m = true) : ((0 ≤ m.kind ∧ m.kind ≤ 3) ∧ m.to = r.id ∧ m.fr ≠ r.id ∧ (0 ≤ m.fr ∧ m.fr ≤ 2) ∧ (1 ≤ m.term ∧ m.term ≤ 1099511627776) ∧ (0 ≤ m.index ∧ m.index ≤ 4000)) ∧
    (0 ≤ m.commit ∧ m.commit ≤ 4000) ∧ m.index + m.recs.length ≤ 4000 ∧ sound m.recs (max 1 m.prev) m.term = true := by
  refine ⟨right_of h, ?_⟩
  unfold right between at h
  simp only [Bool.and_eq_true, decide_eq_true_eq] at h
  obtain ⟨⟨⟨⟨⟨⟨⟨⟨⟨⟨⟨h1, h2⟩, h3⟩, h4⟩, h5⟩, h6⟩, h7⟩, h8⟩, h9⟩, h10⟩, h11⟩, h12⟩ := h
  exact ⟨h9, h11, h12⟩
theorem right_intro {r : Rep} {m : Msg} (h1 : 0 ≤ m.kind ∧ m.kind ≤ 3) (h2 : m.to = r.id) (h3 : m.fr ≠ r.id) (h4 : 0 ≤ m.fr ∧ m.fr ≤ 2) (h5 : 1 ≤ m.term ∧ m.term ≤ 1099511627776) (h6 : 0 ≤ m.index ∧ m.index ≤ 4000) (h7 : 0 ≤ m.prev ∧ m.prev ≤ m.term)
    (h8 : m.index = 0 → m.prev = 0) (h9 : 0 ≤ m.commit ∧ m.commit ≤ 4000) (h10 : m.recs.length ≤ 8) (h11 : m.index + m.recs.length ≤ 4000) (h12 : sound m.recs (max 1 m.prev) m.term = true) : right r m = true := by
  unfold right between
  simp only [Bool.and_eq_true, decide_eq_true_eq]
  refine ⟨⟨⟨⟨⟨⟨⟨⟨⟨⟨⟨h1, h2⟩, h3⟩, h4⟩, h5⟩, h6⟩, h7⟩, ?_⟩, h9⟩, h10⟩, h11⟩, h12⟩
  by_cases e : m.index = 0
  · rw [h8 e]; simp
  · simp [e]

/-! ### Soundness is kept -/
theorem WF.bump {r : Rep} (W : WF r) {m : Msg} (h1 : m.term ≤ 1099511627776) : WF (bump r m) := by
  unfold M.bump
  split
  · have := W.term0
    exact { W with
      term0 := by show 0 ≤ m.term; omega
      termM := h1
      vote0 := by show (-1 : Int) ≤ -1; omega
      vote2 := by show (-1 : Int) ≤ 2; omega
      logOk := sound_mono _ _ _ _ (by show _ ≤ m.term; omega) W.logOk
      role0 := Int.le_refl _
      role2 := by show (0 : Int) ≤ 2; omega
      nexts := fun (e : (0 : Int) = 2) => absurd e (by decide)
      mtchs := fun (e : (0 : Int) = 2) => absurd e (by decide) }
  · exact W
theorem bump_le (r : Rep) (m : Msg) : m.term ≤ (bump r m).hard.term := by
  unfold bump
  split
  · exact Int.le_refl _
  · omega
theorem bump_log (r : Rep) (m : Msg) : (bump r m).log = r.log ∧ (bump r m).id = r.id ∧ (bump r m).commit = r.commit := by
  unfold bump; split <;> exact ⟨rfl, rfl, rfl⟩
theorem getD3 {α : Type} (l : List α) (z : α) (j : Nat) (t : α) (h : j < l.length) (P : α → Prop) (k : Nat) (hk : P (l.getD k z)) (ht : P t) : P ((l.set j t).getD k z) := by
  by_cases e : j = k
  · subst e; rw [getD_set_eq _ _ _ _ h]; exact ht
  · rw [getD_set_ne _ _ _ e]; exact hk
theorem WF.lead' {r : Rep} (W : WF r) : WF { r with role := 2, next := [(r.log.length : Int) + 1, (r.log.length : Int) + 1, (r.log.length : Int) + 1], mtch := [0, 0, 0] } :=
  { W with
    role0 := by show (0 : Int) ≤ 2; omega
    role2 := Int.le_refl _
    nextN := rfl
    mtchN := rfl
    nexts := fun _ j hj => by
      have : j = 0 ∨ j = 1 ∨ j = 2 := by omega
      show 1 ≤ ([(r.log.length : Int) + 1, (r.log.length : Int) + 1, (r.log.length : Int) + 1]).getD j 0 ∧ ([(r.log.length : Int) + 1, (r.log.length : Int) + 1, (r.log.length : Int) + 1]).getD j 0 ≤ (r.log.length : Int) + 1
      rcases this with rfl | rfl | rfl <;> exact ⟨by show 1 ≤ (r.log.length : Int) + 1; omega, Int.le_refl _⟩
    mtchs := fun _ j hj => by
      have : j = 0 ∨ j = 1 ∨ j = 2 := by omega
      show 0 ≤ ([0, 0, 0] : List Int).getD j 0 ∧ ([0, 0, 0] : List Int).getD j 0 ≤ (r.log.length : Int)
      rcases this with rfl | rfl | rfl <;> exact ⟨Int.le_refl _, Int.natCast_nonneg _⟩ }
theorem advance_wf {r : Rep} (W : WF r) (hr : r.role = 2) : WF (advance r) := by
  unfold advance
  dsimp only
  split
  · rename_i hc
    have hl : ∀ i ∈ others r.id, (r.mtch.getD i.toNat 0) ≤ r.log.length := fun i hi => by
      have h0 := W.id0
      have h2 := W.id2
      have : i = 0 ∨ i = 1 ∨ i = 2 := by
        have : r.id = 0 ∨ r.id = 1 ∨ r.id = 2 := by omega
        rcases this with e | e | e <;> rw [e] at hi <;> simp [others] at hi <;> omega
      exact (W.mtchs hr i.toNat (by omega)).2
    have key : ∀ (l : List Int) (a : Int), (∀ i ∈ l, r.mtch.getD i.toNat 0 ≤ r.log.length) → a ≤ r.log.length → l.foldl (fun t i => max t (r.mtch.getD i.toNat 0)) a ≤ r.log.length := by
      intro l
      induction l with
      | nil => intro a _ h; exact h
      | cons x xs ih => intro a h1 h2; exact ih _ (fun i hi => h1 i (List.mem_cons_of_mem _ hi)) (by have := h1 x (List.mem_cons_self); show max a _ ≤ _; omega)
    have h0 := W.commit0
    exact { W with commit0 := by have := hc.1; show 0 ≤ (others r.id).foldl (fun t i => max t (r.mtch.getD i.toNat 0)) 0; omega, commitN := key _ _ hl (Int.natCast_nonneg _) }
  · exact W
theorem deed_wf {r : Rep} {m : Msg} (W : WF r) (hr : right r m = true) (hT : m.term ≤ r.hard.term) : WF (deed r m).1 := by
  obtain ⟨⟨hk, hto, hfr, hfr3, htm, hix⟩, hcm, hlen, hso⟩ := right_all hr
  unfold deed
  split
  · unfold vote
    dsimp only
    split
    · exact { W with vote0 := by show -1 ≤ m.fr; omega, vote2 := by show m.fr ≤ 2; omega }
    · exact W
  split
  · unfold voted
    split
    · exact W
    · have W1 : WF { r with votes := r.votes.set m.fr.toNat true } := { W with votesN := by simpa using W.votesN }
      dsimp only
      split
      · exact W1
      · exact W1.lead'
  split
  · unfold append
    dsimp only
    split
    · exact W
    split
    · exact W
    have W0 : WF { r with role := 0 } := { W with
      role0 := Int.le_refl _
      role2 := by show (0 : Int) ≤ 2; omega
      nexts := fun (e : (0 : Int) = 2) => absurd e (by decide)
      mtchs := fun (e : (0 : Int) = 2) => absurd e (by decide) }
    split
    · exact W0
    rename_i h3
    have hl : m.index ≤ r.log.length := by omega
    have hp : tm r.log m.index = m.prev := by
      have := h3
      exact Decidable.byContradiction fun q => this (.inr q)
    have ha := agree_in r.log m.index m.recs hix.1 hl
    have hle := agree_le r.log m.index m.recs
    have hc0 := W.commit0
    have hcN := W.commitN
    split
    · split
      · exact W0
      · rename_i hc
        have hll : (((r.log.take (m.index + (agree r.log m.index m.recs : Int) + 1 - 1).toNat) ++ m.recs.drop (agree r.log m.index m.recs)).length : Int) = m.index + m.recs.length := by
          rw [List.length_append, List.length_take, List.length_drop]; omega
        exact { W0 with
          len := by
            show (r.log.take (m.index + (agree r.log m.index m.recs : Int) + 1 - 1).toNat ++ m.recs.drop (agree r.log m.index m.recs)).length ≤ 4000
            omega
          logOk := by
            have := append_sound W.logOk (sound_mono _ _ _ _ hT hso) hix.1 hl hp
            rw [show m.index + (agree r.log m.index m.recs : Int) + 1 - 1 = m.index + (agree r.log m.index m.recs : Int) from by omega]
            exact this
          commit0 := by show 0 ≤ max r.commit _; omega
          commitN := by
            show max r.commit (min m.commit (m.index + m.recs.length)) ≤ ((r.log.take (m.index + (agree r.log m.index m.recs : Int) + 1 - 1).toNat ++ m.recs.drop (agree r.log m.index m.recs)).length : Int)
            rw [hll]; omega
          nexts := fun (e : (0 : Int) = 2) => absurd e (by decide)
          mtchs := fun (e : (0 : Int) = 2) => absurd e (by decide) }
    · rename_i hk'
      exact { W0 with
        commit0 := by show 0 ≤ max r.commit _; omega
        commitN := by show max r.commit (min m.commit (m.index + m.recs.length)) ≤ (r.log.length : Int); omega }
  · unfold appended
    split
    · exact W
    rename_i hc
    have hrole : r.role = 2 := Decidable.byContradiction fun q => hc (.inl q)
    have hj : m.fr.toNat < 3 := by omega
    have hn := W.nexts hrole
    have hm := W.mtchs hrole
    dsimp only
    split
    · have h1 := hn m.fr.toNat hj
      have h2 := hm m.fr.toNat hj
      rename_i hy
      refine { W with nextN := by simpa using W.nextN, nexts := fun _ k hk => ?_ }
      exact getD3 r.next 0 m.fr.toNat _ (by rw [W.nextN]; exact hj) (fun t => 1 ≤ t ∧ t ≤ (r.log.length : Int) + 1) k (hn k hk) ⟨by omega, by omega⟩
    · rename_i hy
      have hy : m.yes = true := by cases h : m.yes <;> simp_all
      have hix2 : m.index ≤ r.log.length := by
        have := hc
        refine Decidable.byContradiction fun q => this (.inr (.inr ⟨hy, by omega⟩))
      have h2 := hm m.fr.toNat hj
      have W1 : WF { r with mtch := r.mtch.set m.fr.toNat (max (r.mtch.getD m.fr.toNat 0) m.index), next := r.next.set m.fr.toNat (max (r.mtch.getD m.fr.toNat 0) m.index + 1) } := { W with
        mtchN := by simpa using W.mtchN
        nextN := by simpa using W.nextN
        nexts := fun _ k hk => getD3 r.next 0 m.fr.toNat _ (by rw [W.nextN]; exact hj) (fun t => 1 ≤ t ∧ t ≤ (r.log.length : Int) + 1) k (hn k hk) ⟨by omega, by omega⟩
        mtchs := fun _ k hk => getD3 r.mtch 0 m.fr.toNat _ (by rw [W.mtchN]; exact hj) (fun t => 0 ≤ t ∧ t ≤ (r.log.length : Int)) k (hm k hk) ⟨by omega, by omega⟩ }
      have W2 := advance_wf W1 hrole
      split <;> exact W2
theorem hear_wf {r : Rep} (W : WF r) (m : Msg) : WF (hear r m).1 := by
  cases hr : right r m
  · rw [hear_wrong hr]; exact W
  · rw [(hear_deed hr).1]
    obtain ⟨⟨hk, hto, hfr, hfr3, htm, hix⟩, _⟩ := right_all hr
    refine deed_wf (W.bump htm.2) ?_ (bump_le r m)
    have := bump_log r m
    unfold right at hr ⊢
    rw [this.2.1]; exact hr
theorem tick_wf {r : Rep} (W : WF r) : WF (tick r).1 := by
  unfold tick
  split
  · exact W
  split
  · exact W
  · rename_i h
    exact W.ask h _ (by simp)
end M
end Go.Proofs.Ytodmihpmbecncaa
